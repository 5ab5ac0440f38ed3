import Derived.Test.YtbbknbmmpkpgdaaGreatDoorKRel
namespace Go.Proofs.YtbbknbmmpkpgdaaGreatDoor.KAb

def AS.dead (s : AS) (b : Nat) : Prop := s.get b = some .dead

section mem
variable {α : Type}
theorem getU_nil (k : Nat) : getU (.nil : U α) k = none := rfl
theorem getU_node (v : Option α) (l r : U α) (k : Nat) : getU (.node v l r) k = if k = 0 then v else if k % 2 = 1 then getU l (k / 2) else getU r (k / 2 - 1) := by
  show @Bool.rec (fun _ => Option α) (@Bool.rec (fun _ => Option α) (getU r (Nat.sub (Nat.div k 2) 1)) (getU l (Nat.div k 2)) (Nat.beq (Nat.mod k 2) 1)) v (Nat.beq k 0) = _
  rw [brec, brec]
  simp only [Nat.beq_eq]
  rfl
def sidesU : U α → Option α × U α × U α
  | .node v l r => (v, l, r)
  | .nil => (none, .nil, .nil)
theorem getU_sides (t : U α) (k : Nat) : getU t k = if k = 0 then (sidesU t).1 else if k % 2 = 1 then getU (sidesU t).2.1 (k / 2) else getU (sidesU t).2.2 (k / 2 - 1) := by
  cases t with
  | nil => simp [sidesU, getU_nil]
  | node v l r => exact getU_node v l r k
theorem setU_succ (d : Nat) (t : U α) (k : Nat) (v : α) : setU (d + 1) t k v = if k = 0 then .node (some v) (sidesU t).2.1 (sidesU t).2.2 else
    if k % 2 = 1 then .node (sidesU t).1 (setU d (sidesU t).2.1 (k / 2) v) (sidesU t).2.2 else .node (sidesU t).1 (sidesU t).2.1 (setU d (sidesU t).2.2 (k / 2 - 1) v) := by
  have h : setU (d + 1) t k v = setN (fun t k => setU d t k v) k v (sidesU t).1 (sidesU t).2.1 (sidesU t).2.2 := by cases t <;> rfl
  rw [h]
  unfold setN
  rw [brec, brec]
  simp only [Nat.beq_eq]
  rfl
theorem getU_setU (d : Nat) : ∀ (t : U α) (k : Nat) (v : α), k < d → ∀ k', getU (setU d t k v) k' = if k' = k then some v else getU t k' := by
  induction d with
  | zero => intro t k v h; omega
  | succ d ih =>
    intro t k v h k'
    rw [setU_succ, getU_sides t k']
    by_cases h0 : k = 0
    · rw [if_pos h0, getU_node]
      by_cases e : k' = 0
      · rw [if_pos e, if_pos (show k' = k by omega)]
      · rw [if_neg e, if_neg (show ¬ k' = k by omega), if_neg e]
    · rw [if_neg h0]
      by_cases h1 : k % 2 = 1
      · rw [if_pos h1, getU_node]
        by_cases e : k' = 0
        · rw [if_pos e, if_neg (show ¬ k' = k by omega), if_pos e]
        · rw [if_neg e, if_neg e]
          by_cases e1 : k' % 2 = 1
          · rw [if_pos e1, if_pos e1, ih _ _ _ (show k / 2 < d by omega)]
            by_cases e2 : k' = k
            · rw [if_pos e2, if_pos (by rw [e2])]
            · rw [if_neg e2, if_neg (by intro h; apply e2; omega)]
          · rw [if_neg e1, if_neg e1, if_neg (by intro h; rw [h] at e1; exact e1 h1)]
      · rw [if_neg h1, getU_node]
        by_cases e : k' = 0
        · rw [if_pos e, if_neg (show ¬ k' = k by omega), if_pos e]
        · rw [if_neg e, if_neg e]
          by_cases e1 : k' % 2 = 1
          · rw [if_pos e1, if_pos e1, if_neg (by intro h; rw [h] at e1; exact h1 e1)]
          · rw [if_neg e1, if_neg e1, ih _ _ _ (show k / 2 - 1 < d by omega)]
            by_cases e2 : k' = k
            · rw [if_pos e2, if_pos (by rw [e2])]
            · rw [if_neg e2, if_neg (by intro h; apply e2; omega)]
end mem
theorem AS.get_put {s : AS} {b : Nat} (o : AObj) (b' : Nat) : (s.put b o).get b' = if b' = b then some o else s.get b' :=
  getU_setU (b + 1) s.heap b o (Nat.lt_succ_self b) b'
theorem AS.put_next (s : AS) (b : Nat) (o : AObj) : (s.put b o).next = s.next := rfl
theorem AS.new_next (s : AS) (o : AObj) : (s.new o).next = s.next + 1 := rfl
theorem AS.get_new {s : AS} (o : AObj) (b : Nat) : (s.new o).get b = if b = s.next then some o else s.get b :=
  getU_setU (s.next + 1) s.heap s.next o (Nat.lt_succ_self _) b

/-- A row of the machine's memory that a row of the evaluator's stands for. -/
structure RowAt (P : Program) (B : Nat → Prop) (m : Mp) (dead : Nat → Prop) (w : World) (b c : Nat) (cells : List Value) (el : TypeId) (ro : Bool) (C : Array Value) (fz : Nat × Nat) : Prop where
  mb : m b = some (c, C.size, P.cellsOf el)
  hc : w.heap[c]? = some (.cells C el fz)
  fr : ro = false → fz = (0, 0) ∧ ¬ B c
  rel : LRel m dead cells (C.toList.take cells.length)
/-- The entries of two maps. -/
def EntR (m : Mp) (dead : Nat → Prop) (xs ys : List MapEntry) : Prop :=
  xs.length = ys.length ∧ ∀ (i : Nat) (e f : MapEntry), xs[i]? = some e → ys[i]? = some f → f.key = e.key ∧ f.born = e.born ∧ VRel m dead e.val f.val
structure MapAt (B : Nat → Prop) (m : Mp) (dead : Nat → Prop) (w : World) (b c : Nat) (es : List MapEntry) (clock : Nat) (fs : Array MapEntry) : Prop where
  mb : ∃ N z, m b = some (c, N, z)
  hc : w.heap[c]? = some (.map fs clock)
  fr : ¬ B c
  rel : EntR m dead es fs.toList
/-- A range over a function's record. -/
structure LpR (m : Mp) (dead : Nat → Prop) (r : Loop) (k : LoopK) : Prop where
  state : r.state = if k.st = 0 then .ready else if k.st = 1 then .busy else .exhausted
  pending : r.pending = none
  params : r.params.toList = k.params
  assign : r.assign = k.assign
  body : r.body = k.body
  tm : ∀ t, VRel m dead ((opd k.mask (.tmp t)).get k.vars .nil) (r.tmps.getD t undef)
  sz : k.nt ≤ r.tmps.size
structure LoopAt (B : Nat → Prop) (m : Mp) (dead : Nat → Prop) (w : World) (b c : Nat) (k : LoopK) (r : Loop) : Prop where
  mb : ∃ N z, m b = some (c, N, z)
  hc : w.heap[c]? = some (.loop r)
  fr : ¬ B c
  rel : LpR m dead r k
structure DfAt (B : Nat → Prop) (m : Mp) (w : World) (b c : Nat) (taken : Bool) : Prop where
  mb : ∃ N z, m b = some (c, N, z)
  hc : w.heap[c]? = some (.deferred (if taken = true then none else some []))
  fr : ¬ B c
def ORel (P : Program) (B : Nat → Prop) (m : Mp) (dead : Nat → Prop) (w : World) (b : Nat) : AObj → Prop
  | .row cells el ro => ∃ c C fz, RowAt P B m dead w b c cells el ro C fz
  | .mp es clock => ∃ c fs, MapAt B m dead w b c es clock fs
  | .dead => True
  | .lp k => ∃ c r, LoopAt B m dead w b c k r
  | .df taken => ∃ c, DfAt B m w b c taken
theorem LpR.mono {m m' : Mp} {dead dead' : Nat → Prop} (hm : ∀ b x, m b = some x → m' b = some x) (hd : ∀ b, dead b → dead' b) {r : Loop} {k : LoopK} (h : LpR m dead r k) : LpR m' dead' r k :=
  ⟨h.state, h.pending, h.params, h.assign, h.body, fun t => (h.tm t).mono hm hd, h.sz⟩
/-- What a block stands for, somewhere else. -/
theorem ORel.move {P : Program} {B B' : Nat → Prop} {m m' : Mp} {dead dead' : Nat → Prop} {w w' : World} {b : Nat} {o : AObj} (h : ORel P B m dead w b o) (hm : ∀ b x, m b = some x → m' b = some x) (hd : ∀ b, dead b → dead' b)
    (hw : o ≠ .dead → ∀ c N z, m b = some (c, N, z) → w'.heap[c]? = w.heap[c]?) (hB : o ≠ .dead → ∀ c N z, m b = some (c, N, z) → ¬ B c → ¬ B' c) : ORel P B' m' dead' w' b o := by
  cases o with
  | row cells el ro =>
    obtain ⟨c, C, fz, r⟩ := h
    exact ⟨c, C, fz, hm _ _ r.mb, (hw (by simp) _ _ _ r.mb).trans r.hc, fun hf => ⟨(r.fr hf).1, hB (by simp) _ _ _ r.mb (r.fr hf).2⟩, r.rel.mono hm hd⟩
  | mp es clock =>
    obtain ⟨c, fs, r⟩ := h
    obtain ⟨N, z, hb⟩ := r.mb
    exact ⟨c, fs, ⟨N, z, hm _ _ hb⟩, (hw (by simp) _ _ _ hb).trans r.hc, hB (by simp) _ _ _ hb r.fr, r.rel.1, fun i e f he hf => by
      obtain ⟨a1, a3, a4⟩ := r.rel.2 i e f he hf; exact ⟨a1, a3, a4.mono hm hd⟩⟩
  | dead => trivial
  | lp k =>
    obtain ⟨c, r, h⟩ := h
    obtain ⟨N, z, hb⟩ := h.mb
    exact ⟨c, r, ⟨N, z, hm _ _ hb⟩, (hw (by simp) _ _ _ hb).trans h.hc, hB (by simp) _ _ _ hb h.fr, h.rel.mono hm hd⟩
  | df taken =>
    obtain ⟨c, h⟩ := h
    obtain ⟨N, z, hb⟩ := h.mb
    exact ⟨c, ⟨N, z, hm _ _ hb⟩, (hw (by simp) _ _ _ hb).trans h.hc, hB (by simp) _ _ _ hb h.fr⟩
/-- The evaluator's memory and the machine's. 'B': how many blocks there were at the beginning, in the world W0; 'pend': blocks of the evaluator's that the machine has not yet. -/
structure Rel (P : Program) (B : Nat → Prop) (W0 : World) (pend : Nat → Prop) (s : AS) (m : Mp) (w : World) : Prop where
  fresh : ∀ b o, s.get b = some o → b < s.next
  live : ∀ b o, s.get b = some o → ¬ pend b → ORel P B m s.dead w b o
  pnone : ∀ b, pend b → m b = none
  plt : ∀ b, pend b → b < s.next
  mlt : ∀ b c N z, m b = some (c, N, z) → b < s.next ∧ c < w.heap.size
  inj : ∀ b b' c N z N' z', m b = some (c, N, z) → m b' = some (c, N', z') → ¬ s.dead b → ¬ s.dead b' → b = b'
  old : ∀ i, B i → w.heap[i]? = W0.heap[i]?
  size : ∀ i, B i → i < w.heap.size
  os : w.os = W0.os
  out : w.output = W0.output
  glob : ∀ g, g < nGlob → ∃ N z, m g = some (g, N, z)

/-- Later states. -/
structure Ext (s : AS) (m : Mp) (s' : AS) (m' : Mp) : Prop where
  mp : ∀ b x, m b = some x → m' b = some x
  same : ∀ b, b < s.next → m' b = m b
  dead : ∀ b, s.dead b → s'.dead b
  next : s.next ≤ s'.next
  lps : ∀ b k, s.get b = some (.lp k) → ∃ st, s'.get b = some (.lp (k.to st))
theorem Ext.refl (s : AS) (m : Mp) : Ext s m s m := ⟨fun _ _ h => h, fun _ _ => rfl, fun _ h => h, Nat.le_refl _, fun _ k h => ⟨k.st, h⟩⟩
theorem Ext.trans {s s' s'' : AS} {m m' m'' : Mp} (h : Ext s m s' m') (h' : Ext s' m' s'' m'') : Ext s m s'' m'' :=
  ⟨fun b x hx => h'.mp b x (h.mp b x hx), fun b hb => (h'.same b (Nat.lt_of_lt_of_le hb h.next)).trans (h.same b hb), fun b hb => h'.dead b (h.dead b hb), Nat.le_trans h.next h'.next, fun b k hk => let ⟨_st, h1⟩ := h.lps b k hk; let ⟨st', h2⟩ := h'.lps b _ h1; ⟨st', h2⟩⟩
theorem Ext.vrel {s s' : AS} {m m' : Mp} (h : Ext s m s' m') {v u : Value} (hv : VRel m s.dead v u) : VRel m' s'.dead v u := hv.mono h.mp h.dead
theorem Ext.lrel {s s' : AS} {m m' : Mp} (h : Ext s m s' m') {v u : List Value} (hv : LRel m s.dead v u) : LRel m' s'.dead v u := hv.mono h.mp h.dead

section
variable {P : Program} {B : Nat → Prop} {W0 : World} {pend : Nat → Prop} {s : AS} {m : Mp} {w : World}

theorem Rel.drawn (h : Rel P B W0 pend s m w) (n : Nat) : Rel P B W0 pend s m { w with drawn := n } := by
  refine ⟨h.fresh, ?_, h.pnone, h.plt, h.mlt, h.inj, h.old, h.size, h.os, h.out, h.glob⟩
  exact fun b o hb hp => (h.live b o hb hp).move (fun _ _ h => h) (fun _ h => h) (fun _ _ _ _ _ => rfl) fun _ _ _ _ _ h => h
theorem Rel.not_pend (h : Rel P B W0 pend s m w) {b : Nat} {x : Nat × Nat × Nat} (hb : m b = some x) : ¬ pend b := fun hp => by
  rw [h.pnone b hp] at hb; cases hb
/-- The row behind a pointer. -/
theorem Rel.ptr_row (h : Rel P B W0 pend s m w) {a : Addr} {u : Value} (hv : VRel m s.dead (.pointer (some a)) u) {cells : List Value} {el : TypeId} {ro : Bool}
    (hg : s.get a.block = some (.row cells el ro)) : ∃ c C fz, a = ⟨a.block, a.off, none⟩ ∧ u = .pointer (some ⟨c, a.off, none⟩) ∧ RowAt P B m s.dead w a.block c cells el ro C fz := by
  rcases hv.ptr_inv with ⟨b, o, c, N, z, rfl, rfl, hm⟩ | ⟨hd, _⟩
  · obtain ⟨c', C, fz, r⟩ := h.live _ _ hg (h.not_pend hm)
    have := r.mb
    simp only at this hm
    rw [hm] at this
    obtain ⟨rfl, rfl, rfl⟩ : c = c' ∧ N = C.size ∧ z = P.cellsOf el := by simpa using this
    exact ⟨c, C, fz, rfl, rfl, r⟩
  · simp only [AS.dead] at hd; rw [hd] at hg; cases hg

theorem RowAt.cell {b c : Nat} {dead : Nat → Prop} {cells : List Value} {el : TypeId} {ro : Bool} {C : Array Value} {fz : Nat × Nat} (r : RowAt P B m dead w b c cells el ro C fz)
    {i : Nat} {v : Value} (hv : cells[i]? = some v) : ∃ u, w.cell? ⟨c, i, none⟩ = some u ∧ VRel m dead v u := by
  obtain ⟨u, hu, hr⟩ := r.rel.get hv
  refine ⟨u, ?_, hr⟩
  rw [List.getElem?_take] at hu
  split at hu
  · simp only [World.cell?, r.hc]; simpa using hu
  · cases hu
theorem RowAt.len {b c : Nat} {dead : Nat → Prop} {cells : List Value} {el : TypeId} {ro : Bool} {C : Array Value} {fz : Nat × Nat} (r : RowAt P B m dead w b c cells el ro C fz) : cells.length ≤ C.size := by
  have := r.rel.1
  simp at this
  omega

theorem rd_eq (s : AS) (b off n : Nat) : rd s b off n = match s.get b with
    | some (.row cs _ _) => if off + n ≤ cs.length then some ((cs.drop off).take n) else none
    | _ => none := by
  unfold rd
  split
  · rename_i cs el ro hg
    simp only [hg, bif', brec, takeK_eq, dropK_eq, lenK_eq, Nat.ble_eq]
    rfl
  · rename_i hne
    split
    · rename_i cs el ro hg; exact absurd hg (hne cs el ro)
    · rfl
/-- Cells that are read. -/
theorem Rel.read (h : Rel P B W0 pend s m w) {b off n : Nat} {l : List Value} (hrd : rd s b off n = some l) {u : Value} (hv : VRel m s.dead (.pointer (some ⟨b, off, none⟩)) u) :
    ∃ c us, u = .pointer (some ⟨c, off, none⟩) ∧ LRel m s.dead l us ∧ us.length = n ∧ (∀ j v, us[j]? = some v → w.cell? ((⟨c, off, none⟩ : Addr).add j) = some v) := by
  rw [rd_eq] at hrd
  split at hrd
  · rename_i cs el ro hg
    split at hrd
    · rename_i hle
      cases hrd
      obtain ⟨c, C, fz, _, rfl, r⟩ := h.ptr_row hv hg
      have hlen := r.len
      refine ⟨c, ((C.toList.take cs.length).drop off).take n, rfl, (r.rel.drop off).take n, ?_, ?_⟩
      · simp; omega
      · intro j v hj
        rw [Addr.add_lit]
        simp only [World.cell?, r.hc]
        rw [List.getElem?_take] at hj
        split at hj
        · rw [List.getElem?_drop, List.getElem?_take] at hj
          split at hj
          · simpa using hj
          · cases hj
        · cases hj
    · cases hrd
  · cases hrd

theorem splice_eq (cs : List Value) (off : Nat) (vs : List Value) : splice cs off vs = cs.take off ++ (vs ++ cs.drop (off + vs.length)) := by
  simp only [splice, appK_eq, takeK_eq, dropK_eq, lenK_eq]; rfl
theorem LRel.splice {dead : Nat → Prop} {cs ds vs us : List Value} (h : LRel m dead cs ds) (h' : LRel m dead vs us) (off : Nat) : LRel m dead (splice cs off vs) (splice ds off us) := by
  rw [splice_eq, splice_eq, ← h'.1]
  exact (h.take off).append (h'.append (h.drop _))
theorem splice_length (cs : List Value) (off : Nat) (vs : List Value) (h : off + vs.length ≤ cs.length) : (splice cs off vs).length = cs.length := by
  rw [splice_eq]; simp; omega

/-- Two memories that part in one block alone. -/
theorem Rel.setBlock (h : Rel P B W0 pend s m w) {b c N z : Nat} (hm : m b = some (c, N, z)) (hnd : ¬ s.dead b) (hB : ¬ B c) (o' : AObj) (ob : Obj)
    (hnd' : o' ≠ .dead) {w' : World} (hw' : w'.heap[c]? = some ob) (hoth : ∀ k, k ≠ c → w'.heap[k]? = w.heap[k]?) (hsz : w'.heap.size = w.heap.size) (hos : w'.os = w.os) (hout : w'.output = w.output)
    (ho : ORel P B m s.dead w' b o') : Rel P B W0 pend (s.put b o') m w' := by
  have hd : (s.put b o').dead = s.dead := by
    funext x
    simp only [AS.dead, AS.get_put]
    split
    · rename_i e; subst e; simp only [Option.some.injEq, eq_iff_iff]; exact ⟨fun e => absurd e hnd', fun e => absurd e hnd⟩
    · rfl
  have keep : ∀ b' o, s.get b' = some o → b' ≠ b → ¬ pend b' → ORel P B m s.dead w' b' o := by
    intro b' o hg hne hp
    refine (h.live b' o hg hp).move (fun _ _ h => h) (fun _ h => h) (fun ho c' N' z' hm' => hoth c' fun e => hne (h.inj b' b c' _ _ _ _ hm' (e ▸ hm) (fun hdd => ho ?_) hnd)) fun _ _ _ _ _ h => h
    rw [AS.dead, hg] at hdd
    exact Option.some.inj hdd
  constructor
  · intro b' o hg
    rw [AS.get_put] at hg
    split at hg
    · rename_i e; subst e; exact (h.mlt _ _ _ _ hm).1
    · exact h.fresh _ _ hg
  · intro b' o hg hp
    rw [hd]
    rw [AS.get_put] at hg
    split at hg
    · rename_i e; subst e; cases hg; exact ho
    · rename_i e; exact keep b' o hg e hp
  · exact h.pnone
  · exact h.plt
  · intro b' c' N' z' hm'; have := h.mlt _ _ _ _ hm'; exact ⟨this.1, hsz ▸ this.2⟩
  · intro b1 b2 c' N1 z1 N2 z2 h1 h2 hd1 hd2; rw [hd] at hd1 hd2; exact h.inj _ _ _ _ _ _ _ h1 h2 hd1 hd2
  · intro i hi; rw [hoth i (by rintro rfl; exact hB hi)]; exact h.old i hi
  · rw [hsz]; exact h.size
  · rw [hos]; exact h.os
  · rw [hout]; exact h.out
  · exact h.glob
theorem Ext.put (_h : Rel P B W0 pend s m w) {b : Nat} (hnd : ¬ s.dead b) (o : AObj) (hlp : ∀ k, s.get b = some (.lp k) → ∃ st, o = .lp (k.to st)) : Ext s m (s.put b o) m :=
  ⟨fun _ _ h => h, fun _ _ => rfl, fun x hx => by
    simp only [AS.dead, AS.get_put]
    rw [if_neg (fun (e : x = b) => hnd (e ▸ hx))]; exact hx, Nat.le_refl _, fun b' k hk => by
    rw [AS.get_put]
    split
    · rename_i e; subst e; obtain ⟨st, rfl⟩ := hlp k hk; exact ⟨st, rfl⟩
    · exact ⟨k.st, hk⟩⟩

theorem wr_eq (s : AS) (b off : Nat) (vs : List Value) : wr s b off vs = match s.get b with
    | some (.row cs el false) => if vs.all scal = true then (if off + vs.length ≤ cs.length then some (s.put b (.row (splice cs off vs) el false)) else none) else none
    | _ => none := by
  unfold wr
  split
  · rename_i cs el hg
    simp only [hg, bif', brec, allK_eq, lenK_eq, Nat.ble_eq]
    rfl
  · rename_i hne
    split
    · rename_i cs el hg; exact absurd hg (hne cs el)
    · rfl
theorem LRel.scal {dead : Nat → Prop} {vs us : List Value} (h : LRel m dead vs us) (hs : vs.all KAb.scal = true) : ∀ u ∈ us, u.oneCell' = true := by
  induction vs generalizing us with
  | nil => rw [h.inv_nil]; simp
  | cons v vs ih =>
    obtain ⟨u, us, rfl, h1, h2⟩ := h.inv_cons
    simp only [List.all_cons, Bool.and_eq_true] at hs
    intro x hx
    rcases List.mem_cons.1 hx with rfl | hx
    · exact h1.scal hs.1
    · exact ih h2 hs.2 x hx
/-- Cells that are written. -/
theorem Rel.write (h : Rel P B W0 pend s m w) {b off : Nat} {vs us : List Value} {s' : AS} (hwr : wr s b off vs = some s') {u : Value} (hv : VRel m s.dead (.pointer (some ⟨b, off, none⟩)) u) (hl : LRel m s.dead vs us) :
    ∃ c w', u = .pointer (some ⟨c, off, none⟩) ∧ (storeCells ⟨c, off, none⟩ us).run P w = .ok () w' ∧ Rel P B W0 pend s' m w' ∧ Ext s m s' m := by
  rw [wr_eq] at hwr
  split at hwr
  · rename_i cs el hg
    split at hwr
    · rename_i hs
      split at hwr
      · rename_i hle
        cases hwr
        obtain ⟨c, C, fz, _, rfl, r⟩ := h.ptr_row hv hg
        obtain ⟨rfl, hBc⟩ := r.fr rfl
        have hlen := r.len
        have hul : us.length = vs.length := hl.1.symm
        have hnd : ¬ s.dead b := by simp [AS.dead, hg]
        have hst := run_storeCells_at P c off el us 0 C w r.hc (by simp only [Nat.add_zero]; omega) (hl.scal hs)
        refine ⟨c, _, rfl, hst, ?_, Ext.put h hnd _ (fun k hk => by rw [hg] at hk; cases hk)⟩
        refine h.setBlock (ob := .cells _ el (0, 0)) r.mb hnd hBc _ (by simp) (setRow_heap w c C _ el _ r.hc) (fun k hk => setRow_other w c k _ hk) (by simp) rfl rfl ?_
        have hsz : ((C.toList.take (off + 0) ++ us ++ C.toList.drop (off + 0 + us.length)).toArray).size = C.size := by simp; omega
        refine ⟨c, _, (0, 0), by rw [hsz]; exact r.mb, setRow_heap w c C _ el _ r.hc, fun _ => ⟨rfl, hBc⟩, ?_⟩
        have := (r.rel.splice hl off)
        have e : splice (C.toList.take cs.length) off us = ((C.toList.take (off + 0) ++ us ++ C.toList.drop (off + 0 + us.length)).toArray.toList).take (splice cs off vs).length := by
          rw [splice_length _ _ _ hle, splice_eq]
          apply List.ext_getElem?
          intro k
          simp only [Nat.add_zero, List.getElem?_append, List.getElem?_take, List.getElem?_drop, List.length_take, Array.length_toList, List.append_assoc]
          by_cases h1 : k < off
          · simp [h1, show min off C.size = off by omega, show min off (min cs.length C.size) = off by omega, show k < cs.length by omega]
          · by_cases h2 : k < off + us.length
            · simp [h1, show min off C.size = off by omega, show min off (min cs.length C.size) = off by omega, show k < cs.length by omega, show k - off < us.length by omega]
            · by_cases h3 : k < cs.length
              · simp [h1, h3, show min off C.size = off by omega, show min off (min cs.length C.size) = off by omega, show ¬ k - off < us.length by omega, show off + us.length + (k - off - us.length) = k by omega]
              · simp [h1, h3, show min off (min cs.length C.size) = off by omega, show ¬ k - off < us.length by omega, show off + us.length + (k - off - us.length) = k by omega]
        rw [← e]
        exact this
      · cases hwr
    · cases hwr
  · cases hwr

/-- A new block. -/
theorem Rel.newObj (h : Rel P B W0 pend s m w) (o : AObj) (ob : Obj) (N z : Nat) (hdo : o ≠ .dead)
    (ho : ∀ m' : Mp, (∀ b x, m b = some x → m' b = some x) → m' s.next = some (w.heap.size, N, z) → ORel P B m' s.dead { w with heap := w.heap.push ob } s.next o) :
    ∃ m', m' s.next = some (w.heap.size, N, z) ∧ Rel P B W0 pend (s.new o) m' { w with heap := w.heap.push ob } ∧ Ext s m (s.new o) m' := by
  have hmn : m s.next = none := by
    cases e : m s.next with
    | none => rfl
    | some x => obtain ⟨c, N, z⟩ := x; exact absurd (h.mlt _ _ _ _ e).1 (Nat.lt_irrefl _)
  have hgn : s.get s.next = none := by
    cases e : s.get s.next with
    | none => rfl
    | some x => exact absurd (h.fresh _ _ e) (Nat.lt_irrefl _)
  let m' : Mp := fun b => if b = s.next then some (w.heap.size, N, z) else m b
  have hself : m' s.next = some (w.heap.size, N, z) := by simp [m']
  have hne : ∀ b, b ≠ s.next → m' b = m b := fun b hb => by simp [m', hb]
  have hext : ∀ b x, m b = some x → m' b = some x := fun b x hx => by rw [hne b (fun e => by rw [e, hmn] at hx; cases hx)]; exact hx
  have hold : ∀ k, k < w.heap.size → ({ w with heap := w.heap.push ob } : World).heap[k]? = w.heap[k]? := fun k hk => by simp [Array.getElem?_push, Nat.ne_of_lt hk]
  have hd : (s.new o).dead = s.dead := by
    funext x
    simp only [AS.dead, AS.get_new]
    split
    · rename_i e
      rw [e, hgn]
      simp only [Option.some.injEq, eq_iff_iff, reduceCtorEq, iff_false]
      exact hdo
    · rfl
  refine ⟨m', hself, ?_, ⟨hext, fun b hb => hne b (Nat.ne_of_lt hb), fun b hb => by rw [hd]; exact hb, by rw [AS.new_next]; omega, fun b k hk => by
    rw [AS.get_new]
    split
    · rename_i e; rw [e] at hk; exact absurd (h.fresh _ _ hk) (Nat.lt_irrefl _)
    · exact ⟨k.st, hk⟩⟩⟩
  constructor
  · intro b o' hg
    rw [AS.get_new] at hg
    rw [AS.new_next]
    split at hg
    · rename_i e; omega
    · have := h.fresh _ _ hg; omega
  · intro b o' hg hp
    rw [hd]
    rw [AS.get_new] at hg
    split at hg
    · rename_i e
      cases hg
      rw [e]
      exact ho m' hext hself
    · exact (h.live b o' hg hp).move hext (fun _ h => h) (fun _ c N z hm' => hold c (h.mlt _ _ _ _ hm').2) fun _ _ _ _ _ h => h
  · intro b hp; rw [hne b (Nat.ne_of_lt (h.plt b hp))]; exact h.pnone b hp
  · intro b hp; rw [AS.new_next]; have := h.plt b hp; omega
  · intro b c N' z' hm'
    rw [AS.new_next]
    have hsz : ({ w with heap := w.heap.push ob } : World).heap.size = w.heap.size + 1 := by simp
    by_cases e : b = s.next
    · subst e; rw [hself] at hm'; cases hm'; exact ⟨by omega, by rw [hsz]; omega⟩
    · rw [hne b e] at hm'; have := h.mlt _ _ _ _ hm'; exact ⟨by omega, by rw [hsz]; omega⟩
  · intro b b' c N1 z1 N2 z2 h1 h2 hd1 hd2
    rw [hd] at hd1 hd2
    by_cases e1 : b = s.next <;> by_cases e2 : b' = s.next
    · rw [e1, e2]
    · subst e1; rw [hself] at h1; rw [hne _ e2] at h2; cases h1; have := (h.mlt _ _ _ _ h2).2; omega
    · subst e2; rw [hself] at h2; rw [hne _ e1] at h1; cases h2; have := (h.mlt _ _ _ _ h1).2; omega
    · rw [hne _ e1] at h1; rw [hne _ e2] at h2; exact h.inj _ _ _ _ _ _ _ h1 h2 hd1 hd2
  · intro i hi; rw [hold i (h.size i hi)]; exact h.old i hi
  · intro i hi; have := h.size i hi; simp; omega
  · exact h.os
  · exact h.out
  · intro g hg; obtain ⟨N', z', hg'⟩ := h.glob g hg; exact ⟨N', z', hext _ _ hg'⟩
theorem Rel.newRow (h : Rel P B W0 pend s m w) (cells : List Value) (C : Array Value) (el : TypeId) (hl : LRel m s.dead cells (C.toList.take cells.length)) :
    ∃ m', m' s.next = some (w.heap.size, C.size, P.cellsOf el) ∧ Rel P B W0 pend (s.new (.row cells el false)) m' { w with heap := w.heap.push (.cells C el) } ∧ Ext s m (s.new (.row cells el false)) m' :=
  h.newObj _ _ _ _ (by simp) fun m' hm hs => ⟨w.heap.size, C, (0, 0), hs, by simp, fun _ => ⟨rfl, fun hb => Nat.lt_irrefl _ (h.size _ hb)⟩, hl.mono hm (fun _ h => h)⟩
end
end Go.Proofs.YtbbknbmmpkpgdaaGreatDoor.KAb
