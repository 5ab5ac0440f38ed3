import Derived.Test.YtbbknbmmpkpgdaaGreatDoorKHeap
namespace Go.Proofs.YtbbknbmmpkpgdaaGreatDoor.KAb

/-- What a looking operation says the machine says, too. -/
def LS (P : Program) (s : AS) (m : Mp) (w : World) (r : V) (e : Sem Value) : Prop := ∀ x, r = .ok x → ∃ u, e.run P w = .ok u w ∧ VRel m s.dead x u

section
variable {P : Program} {B : Nat → Prop} {W0 : World} {pend : Nat → Prop} {s : AS} {m : Mp} {w : World}

theorem run_info {t : TypeId} {i : TypeInfo} (h : P.info? t = some i) (w : World) : (typeInfo t).run P w = .ok i w := by simp [typeInfo, h]
theorem run_size {t : TypeId} {i : TypeInfo} (h : P.info? t = some i) (w : World) : (sizeOf t).run P w = .ok i.size w := by simp [sizeOf, run_info h]
theorem run_zero {t : TypeId} {i : TypeInfo} {z : Value} (h : P.info? t = some i) (hz : i.zero = some z) (w : World) : (zeroValue t).run P w = .ok z w := by simp [zeroValue, run_info h, hz]
def isAggD : TypeDesc → Bool
  | .struct _ | .array _ _ => true
  | _ => false
theorem run_agg {t : TypeId} {d : TypeDesc} (h : P.underlying t = some d) (w : World) : (isAgg t).run P w = .ok (isAggD d) w := by
  simp only [isAgg, Sem.run_bind, run_underlying h, Result.andThen_ok]
  cases d <;> rfl
theorem tsize_some {t : TypeId} {n : Nat} (h : tsize P t = some n) : ∃ i, P.info? t = some i ∧ i.size = n := by
  unfold tsize at h
  split at h
  · rename_i i hi; cases h; exact ⟨i, hi, rfl⟩
  · cases h
theorem tzero_some {t : TypeId} {z : Value} (h : tzero P t = some z) : ∃ i, P.info? t = some i ∧ i.zero = some z ∧ flat z = true := by
  unfold tzero at h
  split at h
  · rename_i i hi
    split at h
    · rename_i z' hz
      simp only [bif', brec] at h
      split at h
      · rename_i hf; cases h; exact ⟨i, hi, hz, hf⟩
      · cases h
    · cases h
  · cases h
theorem tkind_one {t : TypeId} (h : tkind P t = .one) : ∃ d, P.underlying t = some d ∧ isAggD d = false := by
  unfold tkind at h
  split at h
  · split at h <;> cases h
  · split at h <;> cases h
  · rename_i d h1 h2 hd
    refine ⟨d, hd, ?_⟩
    cases d <;> first | rfl | (exfalso; exact h1 _ rfl) | (exfalso; exact h2 _ _ rfl)
  · cases h
theorem tkind_agg {t : TypeId} {n : Nat} (h : tkind P t = .agg n) : ∃ d i, P.underlying t = some d ∧ isAggD d = true ∧ P.info? t = some i ∧ i.size = n := by
  unfold tkind at h
  split at h
  · rename_i f hd
    split at h
    · rename_i i hi; cases h; exact ⟨_, i, hd, rfl, hi, rfl⟩
    · cases h
  · rename_i k e hd
    split at h
    · rename_i i hi; cases h; exact ⟨_, i, hd, rfl, hi, rfl⟩
    · cases h
  · cases h
  · cases h
theorem sliceElem_some {t e : TypeId} (h : sliceElem P t = some e) : P.underlying t = some (.slice e) := by
  unfold sliceElem at h
  split at h
  · rename_i e' hd; cases h; exact hd
  · cases h
theorem cellsOf_eq {t : TypeId} {i : TypeInfo} (h : P.info? t = some i) : P.cellsOf t = i.size := by simp [Program.cellsOf, h]

/-! Operations that touch no memory. -/
theorem pureRun_ok {e : Sem Value} {v : Value} (h : pureRun P e = .ok v) (w : World) : e.run P w = .ok v w ∧ flat v = true := by
  induction e generalizing w with
  | pure a =>
    have h' : @Bool.rec (fun _ => V) (.fail "pureRun") (.ok a) (flat a) = .ok v := h
    rw [brec] at h'
    split at h'
    · rename_i hf; cases h'; exact ⟨rfl, hf⟩
    · cases h'
  | program k ih => exact ih P h w
  | mark mk k ih => exact ih h w
  | load _ _ _ _ => exact absurd h (by intro e; cases e)
  | store _ _ _ _ _ => exact absurd h (by intro e; cases e)
  | new _ _ _ => exact absurd h (by intro e; cases e)
  | shape _ _ _ => exact absurd h (by intro e; cases e)
  | freeze _ _ _ _ => exact absurd h (by intro e; cases e)
  | frozen _ _ _ => exact absurd h (by intro e; cases e)
  | getObj _ _ _ => exact absurd h (by intro e; cases e)
  | setObj _ _ _ _ => exact absurd h (by intro e; cases e)
  | choose _ _ _ => exact absurd h (by intro e; cases e)
  | sys _ _ _ => exact absurd h (by intro e; cases e)
  | halt _ => exact absurd h (by intro e; cases e)
theorem pureRun_ls {e : Sem Value} : LS P s m w (pureRun P e) e := fun x h => ⟨x, (pureRun_ok h w).1, vrel_flat (pureRun_ok h w).2⟩

/-! Loads. -/
theorem loadVar_one {t : TypeId} (hk : tkind P t = .one) (a : Addr) (w : World) : (loadVar t a).run P w = (load a).run P w := by
  obtain ⟨d, hd, hg⟩ := tkind_one hk
  simp only [loadVar, Sem.run_bind, run_agg hd, hg, Result.andThen_ok, Bool.false_eq_true, if_false]
theorem load1_ok (hR : Rel P B W0 pend s m w) {t : TypeId} (hk : tkind P t = .one) {a u x : Value} (ha : VRel m s.dead a u) (h : load1 a s = .ok x) :
    ∃ c off y, u = .pointer (some ⟨c, off, none⟩) ∧ (loadVar t ⟨c, off, none⟩).run P w = .ok y w ∧ VRel m s.dead x y := by
  unfold load1 at h
  split at h
  · rename_i b off
    split at h
    · rename_i cs el ro hg
      split at h
      · rename_i v hv
        cases h
        rw [nthK_eq] at hv
        obtain ⟨c, C, fz, _, rfl, r⟩ := hR.ptr_row ha hg
        obtain ⟨y, hy, hxy⟩ := r.cell hv
        exact ⟨c, off, y, rfl, by rw [loadVar_one hk, run_load, hy], hxy⟩
      · cases h
    · cases h
  · cases h
theorem loadN_ok (hR : Rel P B W0 pend s m w) {t : TypeId} {n : Nat} (hk : tkind P t = .agg n) {a u x : Value} (ha : VRel m s.dead a u) (h : loadN n a s = .ok x) :
    ∃ c off y, u = .pointer (some ⟨c, off, none⟩) ∧ (loadVar t ⟨c, off, none⟩).run P w = .ok y w ∧ VRel m s.dead x y := by
  unfold loadN at h
  split at h
  · rename_i b off
    split at h
    · rename_i l hl
      cases h
      obtain ⟨c, us, rfl, hrel, hlen, hcell⟩ := hR.read hl ha
      obtain ⟨d, i, hd, hg, hi, hn⟩ := tkind_agg hk
      refine ⟨c, off, .agg us.toArray, rfl, ?_, vrel_agg (by simpa using hrel)⟩
      have := run_loadCells_list (P := P) w ⟨c, off, none⟩ us hcell
      simp only [loadVar, Sem.run_bind, run_agg hd, hg, Result.andThen_ok, if_true, run_size hi, hn, ← hlen, this, Sem.run_pure]
    · cases h
  · cases h
theorem load_ls1 (hR : Rel P B W0 pend s m w) {t : TypeId} (hk : tkind P t = .one) {a u : Value} (ha : VRel m s.dead a u) : LS P s m w (load1 a s) (Instr.loadAt t u) := by
  intro x h
  obtain ⟨c, off, y, rfl, hy, hr⟩ := load1_ok hR hk ha h
  exact ⟨y, by simp only [Instr.loadAt, Instr.sureAddr, Sem.run_bind, Sem.run_pure, Result.andThen_ok]; exact hy, hr⟩
theorem load_lsN (hR : Rel P B W0 pend s m w) {t : TypeId} {n : Nat} (hk : tkind P t = .agg n) {a u : Value} (ha : VRel m s.dead a u) : LS P s m w (loadN n a s) (Instr.loadAt t u) := by
  intro x h
  obtain ⟨c, off, y, rfl, hy, hr⟩ := loadN_ok hR hk ha h
  exact ⟨y, by simp only [Instr.loadAt, Instr.sureAddr, Sem.run_bind, Sem.run_pure, Result.andThen_ok]; exact hy, hr⟩

/-! Parts of aggregates. -/
theorem part_ls {t : TypeId} {cs : List Value} {ds : Array Value} {off : Nat} (hl : LRel m s.dead cs ds.toList) : LS P s m w (partV (tkind P t) cs off) (part t ds off) := by
  intro x h
  unfold partV at h
  split at h
  · rename_i n hk
    obtain ⟨d, i, hd, hg, hi, hn⟩ := tkind_agg hk
    unfold partN at h
    simp only [bif', brec, Nat.ble_eq, lenK_eq, takeK_eq, dropK_eq] at h
    split at h
    · rename_i hle
      cases h
      refine ⟨.agg (ds.extract off (off + n)), ?_, ?_⟩
      · simp only [part, Sem.run_bind, run_agg hd, hg, Result.andThen_ok, if_true, run_size hi, hn, Sem.run_pure]
      · refine vrel_agg ?_
        have := (hl.drop off).take n
        have e : (ds.extract off (off + n)).toList = (ds.toList.drop off).take n := by
          simp [Array.toList_extract]
          try rw [List.drop_take]
          try congr 1
          try omega
        rw [e]
        simpa using this
    · cases h
  · rename_i hk
    obtain ⟨d, hd, hg⟩ := tkind_one hk
    unfold part1 at h
    split at h
    · rename_i v hv
      cases h
      rw [nthK_eq] at hv
      obtain ⟨u, hu, hr⟩ := hl.get hv
      refine ⟨u, ?_, hr⟩
      have hu' : ds[off]? = some u := by simpa using hu
      simp only [part, Sem.run_bind, run_agg hd, hg, Result.andThen_ok, Bool.false_eq_true, if_false, hu', Sem.run_pure]
    · cases h
  · cases h

theorem natOf_ok {v : Value} {n : Nat} (h : natOf v = some n) : ∃ k, v = .int k n := by
  unfold natOf at h
  split at h
  · rename_i k x
    split at h
    · cases h; exact ⟨k, rfl⟩
    · cases h
  · cases h
theorem onat_ok {v : Option Value} {n : Option Nat} (h : onat v = some n) : (v = none ∧ n = none) ∨ ∃ k x, v = some (.int k (x : Nat)) ∧ n = some x := by
  unfold onat at h
  split at h
  · cases h; exact .inl ⟨rfl, rfl⟩
  · rename_i v
    split at h
    · rename_i x hx
      cases h
      obtain ⟨k, rfl⟩ := natOf_ok hx
      exact .inr ⟨k, x, rfl, rfl⟩
    · cases h

/-! Addresses. -/
theorem fieldOff_some {st : TypeId} {f : Nat} {q : Nat × TypeId} (h : fieldOff P st f = some q) :
    ∃ (fields : Array Field) (fl : Field) (i : TypeInfo), P.underlying st = some (.struct fields) ∧ fields[f]? = some fl ∧ P.info? fl.type = some i ∧ i.size ≠ 0 ∧ q = (fl.offset, fl.type) := by
  unfold fieldOff at h
  split at h
  · rename_i fields hd
    split at h
    · rename_i fl hf
      split at h
      · rename_i n hn
        cases h
        obtain ⟨i, hi, hs⟩ := tsize_some hn
        exact ⟨fields, fl, i, hd, hf, hi, by omega, rfl⟩
      · cases h
    · cases h
  · cases h
theorem add_none (c off n : Nat) : (⟨c, off, none⟩ : Addr).add n = ⟨c, off + n, none⟩ := Addr.add_lit c off n
theorem fieldAddr_ls {st : TypeId} {f : Nat} {q : Nat × TypeId} (hq : fieldOff P st f = some q) {x u : Value} (hx : VRel m s.dead x u) (_hR : Rel P B W0 pend s m w) :
    LS P s m w (doFieldAddr q.1 x) (Instr.fieldAt st u f) := by
  intro y h
  obtain ⟨fields, fl, i, hd, hf, hi, hs, rfl⟩ := fieldOff_some hq
  unfold doFieldAddr at h
  split at h
  · rename_i b off
    cases h
    rcases hx.ptr_inv with ⟨b', o', c, N, z, e, rfl, hm⟩ | ⟨hd', ⟨c, o, sp⟩, rfl⟩
    · cases e
      refine ⟨.pointer (some ⟨c, off + fl.offset, none⟩), ?_, .ptr _ _ _ _ _ hm⟩
      simp only [Instr.fieldAt, Sem.run_bind, run_underlying hd, Result.andThen_ok, hf, Instr.sureAddr, Sem.run_pure, fieldPlace, run_size hi, hs, if_false, add_none]
    · refine ⟨.pointer (some ((⟨c, o, sp⟩ : Addr).add fl.offset)), ?_, .ptrDead _ _ _ _ hd'⟩
      simp only [Instr.fieldAt, Sem.run_bind, run_underlying hd, Result.andThen_ok, hf, Instr.sureAddr, Sem.run_pure, fieldPlace, run_size hi, hs, if_false]
  · cases h
theorem field_ls {st : TypeId} {f : Nat} {q : Nat × TypeId} (hq : fieldOff P st f = some q) {x u : Value} (hx : VRel m s.dead x u) : LS P s m w (doField (tkind P q.2) q.1 x) (Instr.field st u f) := by
  intro y h
  obtain ⟨fields, fl, i, hd, hf, hi, hs, rfl⟩ := fieldOff_some hq
  unfold doField at h
  split at h
  · rename_i cs
    obtain ⟨ys, rfl, hl⟩ := hx.agg_inv
    obtain ⟨u, hu, hr⟩ := part_ls (P := P) (w := w) hl y h
    refine ⟨u, ?_, hr⟩
    simp only [Instr.field, Sem.run_bind, run_underlying hd, Result.andThen_ok, hf, asAgg, Sem.run_pure]
    exact hu
  · cases h
theorem run_asIntOf (k : IntKind) (n : Int) (w : World) : (asIntOf (.int k n)).run P w = .ok (k, n) w := rfl
inductive SKs (P : Program) (t : TypeId) : SK → Prop
  | slice (e : TypeId) (i : TypeInfo) (h : P.underlying t = some (.slice e)) (hi : P.info? e = some i) : SKs P t (.slice i.size)
  | array (n : Nat) (e : TypeId) (i : TypeInfo) (h : P.underlying t = some (.array n e)) (hi : P.info? e = some i) : SKs P t (.array n i.size)
  | string (h : P.underlying t = some .string) : SKs P t .string
  | bad : SKs P t .bad
theorem skind_ok (P : Program) (t : TypeId) : SKs P t (skind P t) := by
  unfold skind
  split
  · rename_i e hd
    split
    · rename_i n hn; obtain ⟨i, hi, rfl⟩ := tsize_some hn; exact .slice e i hd hi
    · exact .bad
  · rename_i n e hd
    split
    · rename_i k hn; obtain ⟨i, hi, rfl⟩ := tsize_some hn; exact .array n e i hd hi
    · exact .bad
  · rename_i hd; exact .string hd
  · exact .bad
theorem indexAddrS_ls {t : TypeId} {size : Nat} (hk : skind P t = .slice size) {x i u v : Value} (hx : VRel m s.dead x u) (hi : VRel m s.dead i v) : LS P s m w (indexAddrS size x i) (Instr.indexAt t u v) := by
  intro y h
  have hsk := skind_ok P t
  rw [hk] at hsk
  cases hsk with
  | slice e info hd hinfo =>
    unfold indexAddrS at h
    split at h
    · cases h
    · rename_i n hn
      obtain ⟨k, rfl⟩ := natOf_ok hn
      have := hi.int_inv
      subst this
      split at h
      · rename_i b off len code
        simp only [bif', brec, Nat.ble_eq] at h
        split at h
        · rename_i hlt
          cases h
          have hlt' : n < len := hlt
          have hc : (0 : Int) ≤ n ∧ (n : Int) < len := by omega
          have hmk : ∀ a cap, (Instr.indexAt t (.slice (some a) len cap) (.int k n)).run P w = .ok (.pointer (some (a.add (n * info.size)))) w := by
            intro a cap
            simp [Instr.indexAt, run_asIntOf, run_underlying hd, run_size hinfo, hlt']
          rcases hx.slice_inv with ⟨b', o', c, N, z, cap, e', rfl, hm, _, _, _⟩ | ⟨a, rfl, rfl, _⟩ | ⟨hd', a, cap, rfl, _, _⟩
          · cases e'
            exact ⟨_, hmk _ _, by rw [add_none]; exact .ptr _ _ _ _ _ hm⟩
          · omega
          · exact ⟨_, hmk _ _, .ptrDead _ _ _ _ hd'⟩
        · cases h
      · cases h
theorem indexAddrA_ls {t : TypeId} {n size : Nat} (hk : skind P t = .array n size) {x i u v : Value} (hx : VRel m s.dead x u) (hi : VRel m s.dead i v) : LS P s m w (indexAddrA n size x i) (Instr.indexAt t u v) := by
  intro y h
  have hsk := skind_ok P t
  rw [hk] at hsk
  cases hsk with
  | array _ e info hd hinfo =>
    unfold indexAddrA at h
    split at h
    · cases h
    · rename_i j hn
      obtain ⟨k, rfl⟩ := natOf_ok hn
      have := hi.int_inv
      subst this
      split at h
      · rename_i b off
        simp only [bif', brec, Nat.ble_eq] at h
        split at h
        · rename_i hlt
          cases h
          have hlt' : j < n := hlt
          have hmk : ∀ a, (Instr.indexAt t (.pointer (some a)) (.int k j)).run P w = .ok (.pointer (some (a.add (j * info.size)))) w := by
            intro a
            simp [Instr.indexAt, run_asIntOf, run_underlying hd, run_size hinfo, hlt', Instr.sureAddr]
          rcases hx.ptr_inv with ⟨b', o', c, N, z, e', rfl, hm⟩ | ⟨hd', a, rfl⟩
          · cases e'
            exact ⟨_, hmk _, by rw [add_none]; exact .ptr _ _ _ _ _ hm⟩
          · exact ⟨_, hmk _, .ptrDead _ _ _ _ hd'⟩
        · cases h
      · cases h
end
end Go.Proofs.YtbbknbmmpkpgdaaGreatDoor.KAb
