import Derived.Test.YtijkbilfnecoaaaGreatDoorKRel
namespace Go.Proofs.YtijkbilfnecoaaaGreatDoor.KAb

def AS.dead (s : AS) (b : Nat) : Prop := s.get b = some .dead

theorem AS.get_eq (s : AS) (b : Nat) : s.get b = if b < top then getT s.heap b else none := by
  show @Bool.rec (fun _ => Option AObj) none (getT s.heap b) (Nat.ble (Nat.add b 1) top) = _
  rw [brec]
  by_cases h : b < top
  · rw [if_pos h, if_pos (by rw [Nat.ble_eq]; exact h)]
  · rw [if_neg h, if_neg (by rw [Nat.ble_eq]; exact h)]
theorem AS.get_lt {s : AS} {b : Nat} {o : AObj} (h : s.get b = some o) : b < top := by
  rw [AS.get_eq] at h
  split at h
  · assumption
  · cases h
theorem top_eq : top = 2 ^ hd := rfl
theorem AS.get_put {s : AS} (h : WT hd s.heap) {b : Nat} (hb : b < top) (o : AObj) (b' : Nat) : (s.put b o).get b' = if b' = b then some o else s.get b' := by
  rw [AS.get_eq, AS.get_eq]
  by_cases h' : b' < top
  · rw [if_pos h', if_pos h']
    exact getT_setT h b o (top_eq ▸ hb) b' (top_eq ▸ h')
  · rw [if_neg h', if_neg h', if_neg (fun (e : b' = b) => h' (e ▸ hb))]
theorem AS.put_next (s : AS) (b : Nat) (o : AObj) : (s.put b o).next = s.next := rfl
theorem AS.new_next (s : AS) (o : AObj) : (s.new o).next = s.next + 1 := rfl
theorem AS.new_heap (s : AS) (o : AObj) : (s.new o).heap = if s.next < top then setT hd s.heap s.next o else s.heap := by
  show @Bool.rec (fun _ => T AObj) s.heap (setT hd s.heap s.next o) (Nat.ble (Nat.add s.next 1) top) = _
  rw [brec]
  by_cases h : s.next < top
  · rw [if_pos h, if_pos (by rw [Nat.ble_eq]; exact h)]
  · rw [if_neg h, if_neg (by rw [Nat.ble_eq]; exact h)]
theorem AS.get_new {s : AS} (h : WT hd s.heap) (o : AObj) (b : Nat) : (s.new o).get b = if b = s.next ∧ s.next < top then some o else s.get b := by
  rw [AS.get_eq, AS.get_eq, AS.new_heap]
  by_cases hn : s.next < top
  · rw [if_pos hn]
    by_cases h' : b < top
    · rw [if_pos h', if_pos h', getT_setT h s.next o (top_eq ▸ hn) b (top_eq ▸ h')]
      by_cases e : b = s.next
      · rw [if_pos e, if_pos ⟨e, hn⟩]
      · rw [if_neg e, if_neg (fun (x : b = s.next ∧ s.next < top) => e x.1)]
    · rw [if_neg h', if_neg h', if_neg (fun (x : b = s.next ∧ s.next < top) => h' (x.1 ▸ hn))]
  · rw [if_neg hn, if_neg (fun (x : b = s.next ∧ s.next < top) => hn x.2)]

/-- A row of the machine's memory that a row of the evaluator's stands for. -/
structure RowAt (P : Program) (B : Nat) (m : Mp) (dead : Nat → Prop) (w : World) (b c : Nat) (cells : List Value) (el : TypeId) (ro : Bool) (C : Array Value) (fz : Nat × Nat) : Prop where
  mb : m b = some (c, C.size, P.cellsOf el)
  hc : w.heap[c]? = some (.cells C el fz)
  fr : ro = false → fz = (0, 0) ∧ B ≤ c
  rel : LRel m dead cells (C.toList.take cells.length)
/-- The entries of two maps. -/
def EntR (m : Mp) (dead : Nat → Prop) (xs ys : List MapEntry) : Prop :=
  xs.length = ys.length ∧ ∀ (i : Nat) (e f : MapEntry), xs[i]? = some e → ys[i]? = some f → f.key = e.key ∧ f.born = e.born ∧ VRel m dead e.val f.val
structure MapAt (B : Nat) (m : Mp) (dead : Nat → Prop) (w : World) (b c : Nat) (es : List MapEntry) (clock : Nat) (fs : Array MapEntry) : Prop where
  mb : ∃ N z, m b = some (c, N, z)
  hc : w.heap[c]? = some (.map fs clock)
  fr : B ≤ c
  rel : EntR m dead es fs.toList
def ORel (P : Program) (B : Nat) (m : Mp) (dead : Nat → Prop) (w : World) (b : Nat) : AObj → Prop
  | .row cells el ro => ∃ c C fz, RowAt P B m dead w b c cells el ro C fz
  | .mp es clock => ∃ c fs, MapAt B m dead w b c es clock fs
  | .dead => True
/-- The evaluator's memory and the machine's. 'B': how many blocks there were at the beginning, in the world W0; 'pend': blocks of the evaluator's that the machine has not yet. -/
structure Rel (P : Program) (B : Nat) (W0 : World) (pend : Nat → Prop) (s : AS) (m : Mp) (w : World) : Prop where
  wt : WT hd s.heap
  fresh : ∀ b o, s.get b = some o → b < s.next
  live : ∀ b o, s.get b = some o → ¬ pend b → ORel P B m s.dead w b o
  pnone : ∀ b, pend b → m b = none
  plt : ∀ b, pend b → b < s.next
  mlt : ∀ b c N z, m b = some (c, N, z) → b < s.next ∧ c < w.heap.size
  inj : ∀ b b' c N z N' z', m b = some (c, N, z) → m b' = some (c, N', z') → ¬ s.dead b → ¬ s.dead b' → b = b'
  old : ∀ i, i < B → w.heap[i]? = W0.heap[i]?
  size : B ≤ w.heap.size
  os : w.os = W0.os
  out : w.output = W0.output
  glob : ∀ g, g < nGlob → ∃ N z, m g = some (g, N, z)

/-- Later states. -/
structure Ext (s : AS) (m : Mp) (s' : AS) (m' : Mp) : Prop where
  mp : ∀ b x, m b = some x → m' b = some x
  same : ∀ b, b < s.next → m' b = m b
  dead : ∀ b, s.dead b → s'.dead b
  next : s.next ≤ s'.next
theorem Ext.refl (s : AS) (m : Mp) : Ext s m s m := ⟨fun _ _ h => h, fun _ _ => rfl, fun _ h => h, Nat.le_refl _⟩
theorem Ext.trans {s s' s'' : AS} {m m' m'' : Mp} (h : Ext s m s' m') (h' : Ext s' m' s'' m'') : Ext s m s'' m'' :=
  ⟨fun b x hx => h'.mp b x (h.mp b x hx), fun b hb => (h'.same b (Nat.lt_of_lt_of_le hb h.next)).trans (h.same b hb), fun b hb => h'.dead b (h.dead b hb), Nat.le_trans h.next h'.next⟩
theorem Ext.vrel {s s' : AS} {m m' : Mp} (h : Ext s m s' m') {v u : Value} (hv : VRel m s.dead v u) : VRel m' s'.dead v u := hv.mono h.mp h.dead
theorem Ext.lrel {s s' : AS} {m m' : Mp} (h : Ext s m s' m') {v u : List Value} (hv : LRel m s.dead v u) : LRel m' s'.dead v u := hv.mono h.mp h.dead

section
variable {P : Program} {B : Nat} {W0 : World} {pend : Nat → Prop} {s : AS} {m : Mp} {w : World}

theorem Rel.drawn (h : Rel P B W0 pend s m w) (n : Nat) : Rel P B W0 pend s m { w with drawn := n } := by
  refine ⟨h.wt, h.fresh, ?_, h.pnone, h.plt, h.mlt, h.inj, h.old, h.size, h.os, h.out, h.glob⟩
  intro b o hb hp
  have := h.live b o hb hp
  cases o with
  | row cells el ro => obtain ⟨c, C, fz, r⟩ := this; exact ⟨c, C, fz, r.mb, r.hc, r.fr, r.rel⟩
  | mp es clock => obtain ⟨c, fs, r⟩ := this; exact ⟨c, fs, r.mb, r.hc, r.fr, r.rel⟩
  | dead => trivial
theorem Rel.not_pend (h : Rel P B W0 pend s m w) {b : Nat} {x : Nat × Nat × Nat} (hb : m b = some x) : ¬ pend b := fun hp => by
  rw [h.pnone b hp] at hb; cases hb
/-- The row behind a pointer. -/
theorem Rel.ptr_row (h : Rel P B W0 pend s m w) {a : Addr} {u : Value} (hv : VRel m s.dead (.pointer (some a)) u) {cells : List Value} {el : TypeId} {ro : Bool}
    (hg : s.get a.block = some (.row cells el ro)) : ∃ c C fz, a = ⟨a.block, a.off, none⟩ ∧ u = .pointer (some ⟨c, a.off, none⟩) ∧ RowAt P B m s.dead w a.block c cells el ro C fz := by
  rcases hv.ptr_inv with ⟨b, o, c, N, z, rfl, rfl, hm⟩ | ⟨hd, _⟩
  · obtain ⟨c', C, fz, r⟩ := h.live _ _ hg (h.not_pend hm)
    have := r.mb
    simp only at this hm
    rw [hm] at this
    obtain ⟨rfl, rfl, rfl⟩ : c = c' ∧ N = C.size ∧ z = P.cellsOf el := by simpa using this
    exact ⟨c, C, fz, rfl, rfl, r⟩
  · simp only [AS.dead] at hd; rw [hd] at hg; cases hg

theorem RowAt.cell {b c : Nat} {dead : Nat → Prop} {cells : List Value} {el : TypeId} {ro : Bool} {C : Array Value} {fz : Nat × Nat} (r : RowAt P B m dead w b c cells el ro C fz)
    {i : Nat} {v : Value} (hv : cells[i]? = some v) : ∃ u, w.cell? ⟨c, i, none⟩ = some u ∧ VRel m dead v u := by
  obtain ⟨u, hu, hr⟩ := r.rel.get hv
  refine ⟨u, ?_, hr⟩
  rw [List.getElem?_take] at hu
  split at hu
  · simp only [World.cell?, r.hc]; simpa using hu
  · cases hu
theorem RowAt.len {b c : Nat} {dead : Nat → Prop} {cells : List Value} {el : TypeId} {ro : Bool} {C : Array Value} {fz : Nat × Nat} (r : RowAt P B m dead w b c cells el ro C fz) : cells.length ≤ C.size := by
  have := r.rel.1
  simp at this
  omega

theorem rd_eq (s : AS) (b off n : Nat) : rd s b off n = match s.get b with
    | some (.row cs _ _) => if off + n ≤ cs.length then some ((cs.drop off).take n) else none
    | _ => none := by
  unfold rd
  split
  · rename_i cs el ro hg
    simp only [hg, bif', brec, takeK_eq, dropK_eq, lenK_eq, Nat.ble_eq]
    rfl
  · rename_i hne
    split
    · rename_i cs el ro hg; exact absurd hg (hne cs el ro)
    · rfl
/-- Cells that are read. -/
theorem Rel.read (h : Rel P B W0 pend s m w) {b off n : Nat} {l : List Value} (hrd : rd s b off n = some l) {u : Value} (hv : VRel m s.dead (.pointer (some ⟨b, off, none⟩)) u) :
    ∃ c us, u = .pointer (some ⟨c, off, none⟩) ∧ LRel m s.dead l us ∧ us.length = n ∧ (∀ j v, us[j]? = some v → w.cell? ((⟨c, off, none⟩ : Addr).add j) = some v) := by
  rw [rd_eq] at hrd
  split at hrd
  · rename_i cs el ro hg
    split at hrd
    · rename_i hle
      cases hrd
      obtain ⟨c, C, fz, _, rfl, r⟩ := h.ptr_row hv hg
      have hlen := r.len
      refine ⟨c, ((C.toList.take cs.length).drop off).take n, rfl, (r.rel.drop off).take n, ?_, ?_⟩
      · simp; omega
      · intro j v hj
        rw [Addr.add_lit]
        simp only [World.cell?, r.hc]
        rw [List.getElem?_take] at hj
        split at hj
        · rw [List.getElem?_drop, List.getElem?_take] at hj
          split at hj
          · simpa using hj
          · cases hj
        · cases hj
    · cases hrd
  · cases hrd

theorem splice_eq (cs : List Value) (off : Nat) (vs : List Value) : splice cs off vs = cs.take off ++ (vs ++ cs.drop (off + vs.length)) := by
  simp only [splice, appK_eq, takeK_eq, dropK_eq, lenK_eq]; rfl
theorem LRel.splice {dead : Nat → Prop} {cs ds vs us : List Value} (h : LRel m dead cs ds) (h' : LRel m dead vs us) (off : Nat) : LRel m dead (splice cs off vs) (splice ds off us) := by
  rw [splice_eq, splice_eq, ← h'.1]
  exact (h.take off).append (h'.append (h.drop _))
theorem splice_length (cs : List Value) (off : Nat) (vs : List Value) (h : off + vs.length ≤ cs.length) : (splice cs off vs).length = cs.length := by
  rw [splice_eq]; simp; omega

/-- Two memories that part in one block alone. -/
theorem Rel.setBlock (h : Rel P B W0 pend s m w) {b c N z : Nat} (hm : m b = some (c, N, z)) (hnd : ¬ s.dead b) (hB : B ≤ c) (o' : AObj) (ob : Obj) (hbt : b < top)
    (hnd' : o' ≠ .dead) {w' : World} (hw' : w'.heap[c]? = some ob) (hoth : ∀ k, k ≠ c → w'.heap[k]? = w.heap[k]?) (hsz : w'.heap.size = w.heap.size) (hos : w'.os = w.os) (hout : w'.output = w.output)
    (ho : ORel P B m s.dead w' b o') : Rel P B W0 pend (s.put b o') m w' := by
  have hd : (s.put b o').dead = s.dead := by
    funext x
    simp only [AS.dead, AS.get_put h.wt hbt]
    split
    · rename_i e; subst e; simp only [Option.some.injEq, eq_iff_iff]; exact ⟨fun e => absurd e hnd', fun e => absurd e hnd⟩
    · rfl
  have keep : ∀ b' o, s.get b' = some o → b' ≠ b → ¬ pend b' → ORel P B m s.dead w' b' o := by
    intro b' o hg hne hp
    have := h.live b' o hg hp
    cases o with
    | row cells el ro =>
      obtain ⟨c', C, fz, r⟩ := this
      have hc : c' ≠ c := fun e => hne (h.inj b' b c' _ _ _ _ r.mb (e ▸ hm) (by simp [AS.dead, hg]) hnd)
      exact ⟨c', C, fz, r.mb, by rw [hoth c' hc]; exact r.hc, r.fr, r.rel⟩
    | mp es clock =>
      obtain ⟨c', fs, r⟩ := this
      obtain ⟨N', z', hm'⟩ := r.mb
      have hc : c' ≠ c := fun e => hne (h.inj b' b c' _ _ _ _ hm' (e ▸ hm) (by simp [AS.dead, hg]) hnd)
      exact ⟨c', fs, r.mb, by rw [hoth c' hc]; exact r.hc, r.fr, r.rel⟩
    | dead => trivial
  constructor
  · exact h.wt.set _ _
  · intro b' o hg
    rw [AS.get_put h.wt hbt] at hg
    split at hg
    · rename_i e; subst e; exact (h.mlt _ _ _ _ hm).1
    · exact h.fresh _ _ hg
  · intro b' o hg hp
    rw [hd]
    rw [AS.get_put h.wt hbt] at hg
    split at hg
    · rename_i e; subst e; cases hg; exact ho
    · rename_i e; exact keep b' o hg e hp
  · exact h.pnone
  · exact h.plt
  · intro b' c' N' z' hm'; have := h.mlt _ _ _ _ hm'; exact ⟨this.1, hsz ▸ this.2⟩
  · intro b1 b2 c' N1 z1 N2 z2 h1 h2 hd1 hd2; rw [hd] at hd1 hd2; exact h.inj _ _ _ _ _ _ _ h1 h2 hd1 hd2
  · intro i hi; rw [hoth i (by omega)]; exact h.old i hi
  · rw [hsz]; exact h.size
  · rw [hos]; exact h.os
  · rw [hout]; exact h.out
  · exact h.glob
theorem Ext.put (h : Rel P B W0 pend s m w) {b : Nat} (hbt : b < top) (hnd : ¬ s.dead b) (o : AObj) : Ext s m (s.put b o) m :=
  ⟨fun _ _ h => h, fun _ _ => rfl, fun x hx => by
    simp only [AS.dead, AS.get_put h.wt hbt]
    rw [if_neg (fun (e : x = b) => hnd (e ▸ hx))]; exact hx, Nat.le_refl _⟩

theorem wr_eq (s : AS) (b off : Nat) (vs : List Value) : wr s b off vs = match s.get b with
    | some (.row cs el false) => if vs.all scal = true then (if off + vs.length ≤ cs.length then some (s.put b (.row (splice cs off vs) el false)) else none) else none
    | _ => none := by
  unfold wr
  split
  · rename_i cs el hg
    simp only [hg, bif', brec, allK_eq, lenK_eq, Nat.ble_eq]
    rfl
  · rename_i hne
    split
    · rename_i cs el hg; exact absurd hg (hne cs el)
    · rfl
theorem LRel.scal {dead : Nat → Prop} {vs us : List Value} (h : LRel m dead vs us) (hs : vs.all KAb.scal = true) : ∀ u ∈ us, u.oneCell' = true := by
  induction vs generalizing us with
  | nil => rw [h.inv_nil]; simp
  | cons v vs ih =>
    obtain ⟨u, us, rfl, h1, h2⟩ := h.inv_cons
    simp only [List.all_cons, Bool.and_eq_true] at hs
    intro x hx
    rcases List.mem_cons.1 hx with rfl | hx
    · exact h1.scal hs.1
    · exact ih h2 hs.2 x hx
/-- Cells that are written. -/
theorem Rel.write (h : Rel P B W0 pend s m w) {b off : Nat} {vs us : List Value} {s' : AS} (hwr : wr s b off vs = some s') {u : Value} (hv : VRel m s.dead (.pointer (some ⟨b, off, none⟩)) u) (hl : LRel m s.dead vs us) :
    ∃ c w', u = .pointer (some ⟨c, off, none⟩) ∧ (storeCells ⟨c, off, none⟩ us).run P w = .ok () w' ∧ Rel P B W0 pend s' m w' ∧ Ext s m s' m := by
  rw [wr_eq] at hwr
  split at hwr
  · rename_i cs el hg
    split at hwr
    · rename_i hs
      split at hwr
      · rename_i hle
        cases hwr
        obtain ⟨c, C, fz, _, rfl, r⟩ := h.ptr_row hv hg
        obtain ⟨rfl, hBc⟩ := r.fr rfl
        have hlen := r.len
        have hul : us.length = vs.length := hl.1.symm
        have hbt : b < top := AS.get_lt hg
        have hnd : ¬ s.dead b := by simp [AS.dead, hg]
        have hst := run_storeCells_at P c off el us 0 C w r.hc (by simp only [Nat.add_zero]; omega) (hl.scal hs)
        refine ⟨c, _, rfl, hst, ?_, Ext.put h hbt hnd _⟩
        refine h.setBlock (ob := .cells _ el (0, 0)) r.mb hnd hBc _ hbt (by simp) (setRow_heap w c C _ el _ r.hc) (fun k hk => setRow_other w c k _ hk) (by simp) rfl rfl ?_
        have hsz : ((C.toList.take (off + 0) ++ us ++ C.toList.drop (off + 0 + us.length)).toArray).size = C.size := by simp; omega
        refine ⟨c, _, (0, 0), by rw [hsz]; exact r.mb, setRow_heap w c C _ el _ r.hc, fun _ => ⟨rfl, hBc⟩, ?_⟩
        have := (r.rel.splice hl off)
        have e : splice (C.toList.take cs.length) off us = ((C.toList.take (off + 0) ++ us ++ C.toList.drop (off + 0 + us.length)).toArray.toList).take (splice cs off vs).length := by
          rw [splice_length _ _ _ hle, splice_eq]
          apply List.ext_getElem?
          intro k
          simp only [Nat.add_zero, List.getElem?_append, List.getElem?_take, List.getElem?_drop, List.length_append, List.length_take, Array.length_toList, List.append_assoc]
          by_cases h1 : k < off
          · simp [h1, show min off C.size = off by omega, show min off (min cs.length C.size) = off by omega, show k < cs.length by omega]
          · by_cases h2 : k < off + us.length
            · simp [h1, show min off C.size = off by omega, show min off (min cs.length C.size) = off by omega, show k < cs.length by omega, show k - off < us.length by omega]
            · by_cases h3 : k < cs.length
              · simp [h1, h3, show min off C.size = off by omega, show min off (min cs.length C.size) = off by omega, show ¬ k - off < us.length by omega, show off + us.length + (k - off - us.length) = k by omega]
              · simp [h1, h3, show min off C.size = off by omega, show min off (min cs.length C.size) = off by omega, show ¬ k - off < us.length by omega, show off + us.length + (k - off - us.length) = k by omega]
        rw [← e]
        exact this
      · cases hwr
    · cases hwr
  · cases hwr

/-- A new block. -/
theorem Rel.newObj (h : Rel P B W0 pend s m w) (o : AObj) (ob : Obj) (N z : Nat) (hdo : o ≠ .dead)
    (ho : ∀ m' : Mp, (∀ b x, m b = some x → m' b = some x) → m' s.next = some (w.heap.size, N, z) → ORel P B m' s.dead { w with heap := w.heap.push ob } s.next o) :
    ∃ m', m' s.next = some (w.heap.size, N, z) ∧ Rel P B W0 pend (s.new o) m' { w with heap := w.heap.push ob } ∧ Ext s m (s.new o) m' := by
  have hmn : m s.next = none := by
    cases e : m s.next with
    | none => rfl
    | some x => obtain ⟨c, N, z⟩ := x; exact absurd (h.mlt _ _ _ _ e).1 (Nat.lt_irrefl _)
  have hgn : s.get s.next = none := by
    cases e : s.get s.next with
    | none => rfl
    | some x => exact absurd (h.fresh _ _ e) (Nat.lt_irrefl _)
  let m' : Mp := fun b => if b = s.next then some (w.heap.size, N, z) else m b
  have hself : m' s.next = some (w.heap.size, N, z) := by simp [m']
  have hne : ∀ b, b ≠ s.next → m' b = m b := fun b hb => by simp [m', hb]
  have hext : ∀ b x, m b = some x → m' b = some x := fun b x hx => by rw [hne b (fun e => by rw [e, hmn] at hx; cases hx)]; exact hx
  have hold : ∀ k, k < w.heap.size → ({ w with heap := w.heap.push ob } : World).heap[k]? = w.heap[k]? := fun k hk => by simp [Array.getElem?_push, Nat.ne_of_lt hk]
  have hd : (s.new o).dead = s.dead := by
    funext x
    simp only [AS.dead, AS.get_new h.wt]
    split
    · rename_i e
      rw [e.1, hgn]
      simp only [Option.some.injEq, eq_iff_iff, reduceCtorEq, iff_false]
      exact hdo
    · rfl
  refine ⟨m', hself, ?_, ⟨hext, fun b hb => hne b (Nat.ne_of_lt hb), fun b hb => by rw [hd]; exact hb, by rw [AS.new_next]; omega⟩⟩
  constructor
  · rw [AS.new_heap]; split
    · exact h.wt.set _ _
    · exact h.wt
  · intro b o' hg
    rw [AS.get_new h.wt] at hg
    rw [AS.new_next]
    split at hg
    · rename_i e; omega
    · have := h.fresh _ _ hg; omega
  · intro b o' hg hp
    rw [hd]
    rw [AS.get_new h.wt] at hg
    split at hg
    · rename_i e
      cases hg
      rw [e.1]
      exact ho m' hext hself
    · have hb := h.fresh _ _ hg
      have := h.live b o' hg hp
      cases o' with
      | row cells el ro =>
        obtain ⟨c, C, fz, r⟩ := this
        exact ⟨c, C, fz, hext _ _ r.mb, by rw [hold c (h.mlt _ _ _ _ r.mb).2]; exact r.hc, r.fr, r.rel.mono hext (fun _ h => h)⟩
      | mp es clock =>
        obtain ⟨c, fs, r⟩ := this
        obtain ⟨N', z', hm'⟩ := r.mb
        exact ⟨c, fs, ⟨N', z', hext _ _ hm'⟩, by rw [hold c (h.mlt _ _ _ _ hm').2]; exact r.hc, r.fr, r.rel.1, fun i e f he hf => by
          obtain ⟨a1, a3, a4⟩ := r.rel.2 i e f he hf; exact ⟨a1, a3, a4.mono hext (fun _ h => h)⟩⟩
      | dead => trivial
  · intro b hp; rw [hne b (Nat.ne_of_lt (h.plt b hp))]; exact h.pnone b hp
  · intro b hp; rw [AS.new_next]; have := h.plt b hp; omega
  · intro b c N' z' hm'
    rw [AS.new_next]
    have hsz : ({ w with heap := w.heap.push ob } : World).heap.size = w.heap.size + 1 := by simp
    by_cases e : b = s.next
    · subst e; rw [hself] at hm'; cases hm'; exact ⟨by omega, by rw [hsz]; omega⟩
    · rw [hne b e] at hm'; have := h.mlt _ _ _ _ hm'; exact ⟨by omega, by rw [hsz]; omega⟩
  · intro b b' c N1 z1 N2 z2 h1 h2 hd1 hd2
    rw [hd] at hd1 hd2
    by_cases e1 : b = s.next <;> by_cases e2 : b' = s.next
    · rw [e1, e2]
    · subst e1; rw [hself] at h1; rw [hne _ e2] at h2; cases h1; have := (h.mlt _ _ _ _ h2).2; omega
    · subst e2; rw [hself] at h2; rw [hne _ e1] at h1; cases h2; have := (h.mlt _ _ _ _ h1).2; omega
    · rw [hne _ e1] at h1; rw [hne _ e2] at h2; exact h.inj _ _ _ _ _ _ _ h1 h2 hd1 hd2
  · intro i hi; rw [hold i (Nat.lt_of_lt_of_le hi h.size)]; exact h.old i hi
  · simp; have := h.size; omega
  · exact h.os
  · exact h.out
  · intro g hg; obtain ⟨N', z', hg'⟩ := h.glob g hg; exact ⟨N', z', hext _ _ hg'⟩
theorem Rel.newRow (h : Rel P B W0 pend s m w) (cells : List Value) (C : Array Value) (el : TypeId) (hl : LRel m s.dead cells (C.toList.take cells.length)) :
    ∃ m', m' s.next = some (w.heap.size, C.size, P.cellsOf el) ∧ Rel P B W0 pend (s.new (.row cells el false)) m' { w with heap := w.heap.push (.cells C el) } ∧ Ext s m (s.new (.row cells el false)) m' :=
  h.newObj _ _ _ _ (by simp) fun m' hm hs => ⟨w.heap.size, C, (0, 0), hs, by simp, fun _ => ⟨rfl, h.size⟩, hl.mono hm (fun _ h => h)⟩
end
end Go.Proofs.YtijkbilfnecoaaaGreatDoor.KAb
