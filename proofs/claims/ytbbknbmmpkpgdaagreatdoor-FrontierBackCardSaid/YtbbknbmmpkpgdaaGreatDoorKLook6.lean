import Derived.Test.YtbbknbmmpkpgdaaGreatDoorKLook5
namespace Go.Proofs.YtbbknbmmpkpgdaaGreatDoor.KAb
section
variable {P : Program} {B : Nat → Prop} {W0 : World} {pend : Nat → Prop} {s : AS} {m : Mp} {w : World}

theorem doUn_ls {op : UnOp} {x u : Value} (hx : VRel m s.dead x u) : LS P s m w (doUn P op x) (Op.unary op u) := by
  intro y h
  unfold doUn at h
  split at h
  · have := hx.bool_inv; subst this
    split at h
    · cases h; refine ⟨_, rfl, ?_⟩; rw [notB_eq]; exact .flat _ rfl
    · cases h
  · simp only [brec] at h
    split at h
    · rename_i hf; rw [hx.flat_eq hf]; exact pureRun_ls y h
    · cases h

/-! Conversions. -/
theorem convFlat_ls {src dst : TypeId} {x u : Value} (hx : VRel m s.dead x u) : LS P s m w (convFlat P src dst x) (convert src dst u) := by
  intro y h
  unfold convFlat at h
  simp only [brec] at h
  split at h
  · rename_i hf; rw [hx.flat_eq hf]; exact pureRun_ls y h
  · cases h
inductive FromKs (P : Program) (t : TypeId) : FromK → Prop
  | bytes (e : TypeId) (h : P.underlying t = some (.slice e)) (he : P.underlying e = some (.int .u8)) : FromKs P t .bytes
  | other (d : TypeDesc) (h : P.underlying t = some d) : FromKs P t .other
  | bad : FromKs P t .bad
theorem srcKind_ok (P : Program) (t : TypeId) : FromKs P t (srcKind P t) := by
  unfold srcKind
  split
  · rename_i e hd
    split
    · rename_i he; exact .bytes e hd he
    · exact .other _ hd
    · exact .other _ hd
  · rename_i d _ hd; exact .other _ hd
  · exact .bad
theorem srcKind_some {t : TypeId} (h : srcKind P t ≠ .bad) : ∃ d, P.underlying t = some d := by
  have hk := srcKind_ok P t
  generalize srcKind P t = k at hk h
  cases hk with
  | bytes e h1 _ => exact ⟨_, h1⟩
  | other d h1 => exact ⟨_, h1⟩
  | bad => exact absurd rfl h
inductive CKs (P : Program) (t : TypeId) : CK → Prop
  | int (k : IntKind) (h : P.underlying t = some (.int k)) : CKs P t (.int k)
  | bytes (e : TypeId) (h : P.underlying t = some (.slice e)) (he : P.underlying e = some (.int .u8)) : CKs P t (.bytes e)
  | string (h : P.underlying t = some .string) : CKs P t .string
  | other : CKs P t .other
theorem ckind_ok (P : Program) (t : TypeId) : CKs P t (ckind P t) := by
  unfold ckind
  split
  · rename_i hd; exact .int _ hd
  · rename_i e hd
    split
    · rename_i he; exact .bytes e hd he
    · exact .other
  · rename_i hd; exact .string hd
  · exact .other
theorem convInt_ls {src dst : TypeId} {k : IntKind} (hs : srcKind P src ≠ .bad) (hk : ckind P dst = .int k) {x u : Value} (hx : VRel m s.dead x u) : LS P s m w (convInt P src dst k x) (convert src dst u) := by
  intro y h
  have hck := ckind_ok P dst
  rw [hk] at hck
  cases hck with
  | int _ hd =>
    unfold convInt at h
    split at h
    · have := hx.int_inv; subst this
      cases h
      obtain ⟨d, hd'⟩ := srcKind_some hs
      refine ⟨_, ?_, .flat _ rfl⟩
      simp [convert, run_underlying hd, run_underlying hd', Conv.intToInt, wrapF_eq]
    · exact convFlat_ls hx y h
theorem toBytes_cons (v : Value) (l : List Value) : toBytes (v :: l) = (toBytes l).bind fun r => (toByte v).map (· :: r) := by
  have : toBytes (v :: l) = match toBytes l with | none => none | some r => (match toByte v with | none => none | some b => some (b :: r)) := rfl
  rw [this]
  cases toBytes l with
  | none => rfl
  | some r => cases toByte v <;> rfl
theorem toByte_ok {v : Value} {b : UInt8} (h : toByte v = some b) : ∃ n : Nat, v = .int .u8 n ∧ b = UInt8.ofNat n := by
  unfold toByte at h
  split at h
  · split at h
    · rename_i n; cases h; exact ⟨n, rfl, rfl⟩
    · cases h
  · cases h
theorem toBytes_ok {cs : List Value} {bs : List UInt8} (h : toBytes cs = some bs) : ∃ ns : List Nat, cs = ns.map (fun n : Nat => Value.int .u8 (n : Int)) ∧ bs = ns.map UInt8.ofNat := by
  induction cs generalizing bs with
  | nil => cases h; exact ⟨[], rfl, rfl⟩
  | cons v cs ih =>
    rw [toBytes_cons] at h
    cases hr : toBytes cs with
    | none => rw [hr] at h; cases h
    | some r =>
      rw [hr] at h
      cases hb : toByte v with
      | none => rw [hb] at h; cases h
      | some b =>
        rw [hb] at h
        cases h
        obtain ⟨ns, rfl, rfl⟩ := ih hr
        obtain ⟨n, rfl, rfl⟩ := toByte_ok hb
        exact ⟨n :: ns, rfl, rfl⟩
theorem ints_flat (ns : List Nat) : (ns.map (fun n : Nat => Value.int .u8 (n : Int))).all flat1 = true := by
  induction ns with
  | nil => rfl
  | cons n ns ih => simp [flat1]
/-- The cells of a slice, as they are read. -/
theorem Rel.sliceCells (hR : Rel P B W0 pend s m w) {size n : Nat} {a : Option Addr} {len code : Nat} {u : Value} {l : List Value} (hx : VRel m s.dead (.slice a len code) u) (h : cellsV s size n (.slice a len code) = some l) (hnl : n ≤ len) :
    ∃ b cap us, u = .slice b len cap ∧ LRel m s.dead l us ∧ ∀ w', w'.heap = w.heap → (Builtin.firstCells size n (.slice b len cap)).run P w' = .ok us.toArray w' := by
  have cellEq : ∀ w' : World, w'.heap = w.heap → ∀ a, w'.cell? a = w.cell? a := fun w' hw a => by simp [World.cell?, hw]
  cases a with
  | none =>
    obtain ⟨rfl, rfl, rfl⟩ := hx.snil_inv
    simp only [cellsV] at h
    cases h
    exact ⟨none, 0, [], rfl, .nil, fun w' _ => by simp [Builtin.firstCells]⟩
  | some a =>
    unfold cellsV at h
    split at h
    · rename_i b off l1 c1 heq
      cases heq
      simp only [bif', brec, Nat.beq_eq] at h
      split at h
      · rename_i hn
        cases h
        subst hn
        obtain ⟨y, l', c', rfl⟩ := slice_some_inv hx
        have hl : l' = len := by rcases hx.slice_inv with ⟨b', o', c, N, z, cap, e', e2, _⟩ | ⟨y', e2, e3, _⟩ | ⟨_, y', cap, e2, _⟩ <;> cases e2 <;> first | rfl | exact e3.symm
        subst hl
        exact ⟨some y, c', [], rfl, .nil, fun w' _ => by simp [Builtin.firstCells, loadCells, loadCellsFrom]⟩
      · rename_i hn
        have hg : ∃ cs el ro, s.get b = some (.row cs el ro) := by
          rw [rd_eq] at h
          split at h
          · rename_i cs el ro hg; exact ⟨cs, el, ro, hg⟩
          · cases h
        obtain ⟨cs, el, ro, hg⟩ := hg
        rcases hx.slice_inv with ⟨b', o', c, N, z, cap, e', rfl, hm, he, hl, hN⟩ | ⟨y, rfl, rfl, hh⟩ | ⟨hd', _⟩
        · cases e'
          obtain ⟨c', us, e2, hrel, hlen, hcell⟩ := hR.read h (.ptr b off c N z hm)
          cases e2
          exact ⟨_, cap, us, rfl, hrel, fun w' hw => run_firstCells_some w' size n _ len cap us hlen (fun j v hj => by rw [cellEq w' hw]; exact hcell j v hj)⟩
        · exact absurd (Nat.le_zero.1 hnl) hn
        · simp only [AS.dead] at hd'; rw [hd'] at hg; cases hg
    · rename_i heq; cases heq
    · rename_i heq; cases heq
    · cases h
end
end Go.Proofs.YtbbknbmmpkpgdaaGreatDoor.KAb
