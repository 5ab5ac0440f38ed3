import Derived.Test.YtbbknbmmpkpgdaaGreatDoorKLook2
namespace Go.Proofs.YtbbknbmmpkpgdaaGreatDoor.KAb
/-- Two values that may be there. -/
inductive OV (m : Mp) (dead : Nat → Prop) : Option Value → Option Value → Prop
  | no : OV m dead none none
  | yes (v u : Value) (h : VRel m dead v u) : OV m dead (some v) (some u)
section
variable {P : Program} {B : Nat → Prop} {W0 : World} {pend : Nat → Prop} {s : AS} {m : Mp} {w : World}
theorem OV.given {v u : Option Value} (h : OV m s.dead v u) {n : Option Nat} (hn : onat v = some n) : Given u n := by
  rcases onat_ok hn with ⟨rfl, rfl⟩ | ⟨k, x, rfl, rfl⟩
  · cases h; exact .no
  · cases h with
    | yes _ u h => rw [h.int_inv]; exact .yes k x

theorem exact_even (n : Nat) : exactB (Nat.mul 2 n) = true := by
  simp only [exactB]
  show Nat.beq ((2 * n) % 2) 0 = true
  rw [show (2 * n) % 2 = 0 by omega]; rfl
theorem half_even (n : Nat) : half (Nat.mul 2 n) = n := by
  show (2 * n) / 2 = n
  omega
theorem exact_odd (n : Nat) : exactB (Nat.add (Nat.mul 2 n) 1) = false := by
  simp only [exactB]
  show Nat.beq ((2 * n + 1) % 2) 0 = false
  rw [show (2 * n + 1) % 2 = 1 by omega]; rfl
theorem half_odd (n : Nat) : half (Nat.add (Nat.mul 2 n) 1) = n := by
  show (2 * n + 1) / 2 = n
  omega
theorem exact_zero : exactB 0 = true := rfl
theorem half_zero : half 0 = 0 := rfl

theorem sliceChk_ok {size b l : Nat} (h : sliceChk P s size b l = true) : l = 0 ∨ ∃ cs el ro, s.get b = some (.row cs el ro) ∧ P.cellsOf el = size := by
  unfold sliceChk at h
  simp only [bif', brec, Nat.beq_eq] at h
  split at h
  · rename_i e; exact .inl e
  · split at h
    · rename_i cs el ro hg; exact .inr ⟨cs, el, ro, hg, by rw [Nat.beq_eq] at h; exact h⟩
    · cases h

/-- The new slice, whatever the old one's partner is. -/
theorem sliceA_rel (hR : Rel P B W0 pend s m w) {mm h l size len code : Nat} {a : Option Addr} {u : Value} {mx : Option Nat} (hx : VRel m s.dead (.slice a len code) u)
    {x : Value} (hs : sliceA P s (bif' (isN mx) (exactB code) true) mm h l size a = .ok x) (h1 : l ≤ h) (h2 : h ≤ mm) (h3 : mm ≤ half code) (hmm : mm = mx.getD (half code)) :
    ∃ b cap, u = .slice b len cap ∧ half code ≤ cap ∧ VRel m s.dead x (.slice (if mx.getD cap = l then b else b.map (·.add (l * size))) (h - l) (mx.getD cap - l)) := by
  cases a with
  | none =>
    obtain ⟨rfl, rfl, rfl⟩ := hx.snil_inv
    have : half 0 = 0 := rfl
    rw [this] at h3
    have e1 : mm = 0 := by omega
    have e2 : h = 0 := by omega
    have e3 : l = 0 := by omega
    subst e1 e2 e3
    have hmx : mx.getD 0 = 0 := by rw [← this]; exact hmm.symm
    refine ⟨none, 0, rfl, Nat.le_refl _, ?_⟩
    rw [hmx]
    unfold sliceA at hs
    cases hs
    have e : bif' (bif' (isN mx) (exactB 0) true) 0 1 = 0 := by cases mx <;> rfl
    rw [e]
    exact .flat _ rfl
  | some a =>
    have hE : (bif' (isN mx) (exactB code) true = true ∧ (mx = none → exactB code = true)) ∨ (bif' (isN mx) (exactB code) true = false ∧ mx = none ∧ exactB code = false) := by
      cases mx with
      | none => cases hc : exactB code
                · exact .inr ⟨rfl, rfl, rfl⟩
                · exact .inl ⟨rfl, fun _ => rfl⟩
      | some y => exact .inl ⟨rfl, fun e => by cases e⟩
    generalize hEE : bif' (isN mx) (exactB code) true = EE at hs hE
    unfold sliceA at hs
    split at hs
    · rename_i heq; cases heq
    · rename_i b off heq
      cases heq
      rcases hE with ⟨rfl, hex⟩ | ⟨rfl, hmx0, hod⟩
      · -- the capacity is known
        simp only [bif', brec] at hs
        have hcap : ∀ cap, (exactB code = true → cap = half code) → half code ≤ cap → mx.getD cap = mm := by
          intro cap he hl
          cases mx with
          | none =>
            simp only [Option.getD_none] at hmm ⊢
            rw [hmm]; exact he (hex rfl)
          | some y => simpa using hmm.symm
        cases hs
        have hsub : Nat.sub mm l = mm - l := rfl
        have hsub' : Nat.sub h l = h - l := rfl
        rcases hx.slice_inv with ⟨b', o', c, N, z, cap, e', rfl, hm, he, hl, _⟩ | ⟨y, rfl, rfl, hh⟩ | ⟨hd', y, cap, rfl, he, hl⟩
        · cases e'
          refine ⟨some ⟨c, off, none⟩, cap, rfl, hl, ?_⟩
          rw [hcap cap he hl]
          by_cases hml : mm = l
          · rw [if_pos (by rw [Nat.beq_eq]; exact hml), if_pos hml]
            exact .slice _ _ _ _ _ _ _ _ hm (fun _ => (half_even _).symm) (by rw [half_even]; exact Nat.le_refl _) (fun e => by rw [exact_even] at e; cases e)
          · rw [if_neg (by rw [Nat.beq_eq]; exact hml), if_neg hml]
            simp only [Option.map_some, add_none]
            exact .slice _ _ _ _ _ _ _ _ hm (fun _ => (half_even _).symm) (by rw [half_even]; exact Nat.le_refl _) (fun e => by rw [exact_even] at e; cases e)
        · rw [hh] at h3
          have e1 : mm = 0 := by omega
          have e2 : h = 0 := by omega
          have e3 : l = 0 := by omega
          subst e1 e2 e3
          refine ⟨some y, 0, rfl, by omega, ?_⟩
          have hmx : mx.getD 0 = 0 := hcap 0 (fun _ => hh.symm) (by omega)
          rw [hmx, if_pos (by rfl), if_pos rfl]
          exact .sliceE _ _ _ _ rfl
        · refine ⟨some y, cap, rfl, hl, ?_⟩
          rw [hcap cap he hl]
          have fin : ∀ (p : Nat) (q : Addr), VRel m s.dead (.slice (some ⟨b, p, none⟩) (h - l) (Nat.mul 2 (mm - l))) (.slice (some q) (h - l) (mm - l)) :=
            fun p q => .sliceDead _ _ _ _ _ _ _ hd' (fun _ => (half_even _).symm) (by rw [half_even]; exact Nat.le_refl _)
          by_cases hml : mm = l
          · rw [if_pos hml]; exact fin _ _
          · rw [if_neg hml]; exact fin _ _
      · -- it is not
        subst hmx0
        simp only [bif', brec] at hs
        simp only [Option.getD_none] at hmm ⊢
        subst hmm
        split at hs
        · rename_i hchk
          cases hs
          have hsub : Nat.sub (half code) l = half code - l := rfl
          have hsub' : Nat.sub h l = h - l := rfl
          rcases hx.slice_inv with ⟨b', o', c, N, z, cap, e', rfl, hm, he, hl, hN⟩ | ⟨y, rfl, rfl, hh⟩ | ⟨hd', y, cap, rfl, he, hl⟩
          · cases e'
            refine ⟨some ⟨c, off, none⟩, cap, rfl, hl, ?_⟩
            by_cases hcl : cap = l
            · rw [if_pos hcl]
              have e1 : half code = l := by omega
              have e2 : h - l = 0 := by omega
              rw [hsub', e2, hcl]
              simp only [Nat.sub_self]
              refine .sliceE _ _ _ _ ?_
              rw [half_odd]; show half code - l = 0; omega
            · rw [if_neg hcl]
              simp only [Option.map_some, add_none]
              have hz : l * size = 0 ∨ z = size := by
                rcases sliceChk_ok hchk with rfl | ⟨cs, el, ro, hg, hel⟩
                · exact .inl (Nat.zero_mul _)
                · obtain ⟨c', C, fz, r⟩ := hR.live _ _ hg (hR.not_pend hm)
                  have := r.mb
                  rw [hm] at this
                  right
                  have h3 : z = P.cellsOf el := by simpa using (congrArg (fun x => x.map (fun y : Nat × Nat × Nat => y.2.2)) this)
                  rw [h3, hel]
              refine .slice _ _ _ _ _ _ _ _ hm (fun e => by rw [exact_odd] at e; cases e) (by rw [half_odd]; show half code - l ≤ cap - l; omega) (fun _ => ?_)
              have hN' := hN hod
              show off + l * size + (cap - l) * z ≤ N
              rcases hz with hz | hz
              · rw [hz]
                have : (cap - l) * z ≤ cap * z := Nat.mul_le_mul_right _ (by omega)
                omega
              · rw [← hz]
                have : l * z + (cap - l) * z = cap * z := by rw [← Nat.add_mul]; congr 1; omega
                omega
          · rw [hh] at h3
            have e2 : h = 0 := by omega
            have e3 : l = 0 := by omega
            subst e2 e3
            refine ⟨some y, 0, rfl, by omega, ?_⟩
            rw [if_pos rfl]
            refine .sliceE _ _ _ _ ?_
            rw [half_odd]; exact hh
          · refine ⟨some y, cap, rfl, hl, ?_⟩
            have fin : ∀ q : Addr, VRel m s.dead (.slice (some ⟨b, Nat.add off (Nat.mul l size), none⟩) (h - l) (Nat.add (Nat.mul 2 (half code - l)) 1)) (.slice (some q) (h - l) (cap - l)) :=
              fun q => .sliceDead _ _ _ _ _ _ _ hd' (fun e => by rw [exact_odd] at e; cases e) (by rw [half_odd]; omega)
            by_cases hcl : cap = l
            · rw [if_pos hcl]; exact fin _
            · rw [if_neg hcl]; exact fin _
        · cases hs
    · cases hs

theorem doSlice_ls (hR : Rel P B W0 pend s m w) {t : TypeId} {x u : Value} (hx : VRel m s.dead x u) {lo hi mx lo' hi' mx' : Option Value} (hlo : OV m s.dead lo lo') (hhi : OV m s.dead hi hi')
    (hmx : OV m s.dead mx mx') (hmh : mx.isSome = true → hi.isSome = true) : LS P s m w (doSlice P (skind P t) x lo hi mx s) (Instr.sliceAt t u lo' hi' mx') := by
  intro y h
  unfold doSlice at h
  split at h
  · cases h
  · rename_i l hl
    split at h
    · cases h
    · rename_i hh hhn
      split at h
      · cases h
      · rename_i mm hmn
        have gl := hlo.given hl
        have gh := hhi.given hhn
        have gm := hmx.given hmn
        have hnm : mm.isSome = true → hh.isSome = true := by
          intro e
          have e1 : mx.isSome = true := by
            rcases onat_ok hmn with ⟨rfl, rfl⟩ | ⟨k, z, rfl, rfl⟩
            · simp at e
            · rfl
          have e2 := hmh e1
          rcases onat_ok hhn with ⟨rfl, rfl⟩ | ⟨k, z, rfl, rfl⟩
          · simp at e2
          · rfl
        have hsk := skind_ok P t
        split at h
        · -- a string
          rename_i hk
          rw [hk] at hsk
          cases hsk with
          | string hd =>
            simp only [bif', brec, isN_eq] at h
            split at h
            · rename_i hnone
              have : mm = none := by simpa using hnone
              subst this
              have : mx' = none := by cases gm; rfl
              subst this
              unfold sliceStr at h
              split at h
              · rename_i b
                have := hx.string_inv
                subst this
                simp only [bif', brec, Nat.ble_eq, getD'_eq, lenK_eq, byteSize] at h
                split at h
                · rename_i h1
                  split at h
                  · rename_i h2
                    cases h
                    rw [extract8_eq _ _ _ h2]
                    refine ⟨.string (b.extract (l.getD 0) (hh.getD b.size)), ?_, .flat _ rfl⟩
                    have hb := run_sliceBounds (P := P) false b.size b.size gl gh .no w h1 (by simpa using h2) (by simp) (by simp) (fun _ => h2)
                    simp only [Instr.sliceAt, Instr.slice, Sem.run_bind, run_underlying hd, Result.andThen_ok, hb, Option.isSome_none, Bool.false_eq_true, if_false, Sem.run_pure]
                  · cases h
                · cases h
              · cases h
            · cases h
        · -- a slice
          rename_i size hk
          rw [hk] at hsk
          cases hsk with
          | slice e info hd hinfo =>
            split at h
            · rename_i a len code
              unfold sliceV sliceB at h
              simp only [bif', brec, Nat.ble_eq, getD'_eq] at h
              split at h
              · rename_i h1
                split at h
                · rename_i h2
                  split at h
                  · rename_i h3
                    have h' : sliceA P s (bif' (isN mm) (exactB code) true) (mm.getD (half code)) (hh.getD len) (l.getD 0) info.size a = .ok y := by simpa only [bif', brec] using h
                    obtain ⟨b, cap, rfl, hle, hr⟩ := sliceA_rel hR hx h' h1 h2 h3 rfl
                    refine ⟨_, ?_, hr⟩
                    have e3 : mm.getD cap ≤ cap := by cases mm <;> simp at h3 ⊢ <;> omega
                    have e2 : hh.getD len ≤ mm.getD cap := by cases mm <;> simp at h2 h3 ⊢ <;> omega
                    have hb := run_sliceBounds (P := P) true len cap gl gh gm w h1 e2 e3 hnm (fun _ => by omega)
                    simp only [Instr.sliceAt, Instr.slice, Sem.run_bind, run_underlying hd, Result.andThen_ok, hb, run_size hinfo, Sem.run_pure]
                  · cases h
                · cases h
              · cases h
            · cases h
        · -- an array
          rename_i n size hk
          rw [hk] at hsk
          cases hsk with
          | array _ e info hd hinfo =>
            split at h
            · rename_i a
              unfold sliceV sliceB at h
              simp only [bif', brec, Nat.ble_eq, getD'_eq] at h
              split at h
              · rename_i h1
                split at h
                · rename_i h2
                  split at h
                  · rename_i h3
                    have h' : sliceA P s (bif' (isN mm) (exactB (Nat.mul 2 n)) true) (mm.getD (half (Nat.mul 2 n))) (hh.getD n) (l.getD 0) info.size (some a) = .ok y := by simpa only [bif', brec] using h
                    have hp : ∃ q, u = .pointer (some q) ∧ VRel m s.dead (.slice (some a) n (Nat.mul 2 n)) (.slice (some q) n n) := by
                      rcases hx.ptr_inv with ⟨b', o', c, N, z, rfl, rfl, hm⟩ | ⟨hd', q, rfl⟩
                      · exact ⟨_, rfl, .slice _ _ _ _ _ _ _ _ hm (fun _ => (half_even _).symm) (by rw [half_even]; exact Nat.le_refl _) (fun e => by rw [exact_even] at e; cases e)⟩
                      · obtain ⟨x1, x2, x3⟩ := a
                        exact ⟨_, rfl, .sliceDead _ _ _ _ _ _ _ hd' (fun _ => (half_even _).symm) (by rw [half_even]; exact Nat.le_refl _)⟩
                    obtain ⟨q, rfl, hq⟩ := hp
                    obtain ⟨b, cap, e', hle, hr⟩ := sliceA_rel hR hq h' h1 h2 h3 rfl
                    cases e'
                    rw [half_even] at h2 h3
                    refine ⟨_, ?_, hr⟩
                    have hb := run_sliceBounds (P := P) false n n gl gh gm w h1 h2 h3 hnm (fun _ => by omega)
                    simp only [Instr.sliceAt, Sem.run_bind, run_underlying hd, Result.andThen_ok, Instr.sureAddr, Sem.run_pure, hb, run_size hinfo, Option.map_some]
                    congr 2
                    split <;> rfl
                  · cases h
                · cases h
              · cases h
            · cases h
        · cases h
end
end Go.Proofs.YtbbknbmmpkpgdaaGreatDoor.KAb
