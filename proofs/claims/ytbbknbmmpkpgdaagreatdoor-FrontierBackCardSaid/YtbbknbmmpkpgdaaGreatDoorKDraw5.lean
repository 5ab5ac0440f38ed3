import Derived.Test.YtbbknbmmpkpgdaaGreatDoorKDraw4
namespace Go.Proofs.YtbbknbmmpkpgdaaGreatDoor.KAb
section
variable {P : Program} {B : Nat → Prop} {W0 : World} {mask nt : Nat} {ops : Array Oper} {cf : CF} {base : Nat} {ds : DS} {infos : List DI} {st : Nat → DSt} {pend : Nat → Prop} {s s0 : AS} {m m0 : Mp} {w : World}
theorem want_val {dead : Nat → Prop} {a : Act} {ops : Array Oper} {j : Nat} {want : Bool} {d : Tmp} {v : Value} (ht : VRel m dead v (a.tmps.getD d undef)) (hd : dstAt ops j = some d) :
    match wantB want v with
    | .yes => (yielded ops a.tmps j == some want) = true
    | .no => (yielded ops a.tmps j == some want) = false
    | .bad => True := by
  have hy : yielded ops a.tmps j = match a.tmps[d]? with | some (.bool b) => some b | _ => none := by
    have : (ops[j]?).bind (·.dst) = some d := hd
    simp only [yielded, this, Option.bind_some]
    rfl
  cases v with
  | bool b =>
    have hb := ht.bool_inv
    have hg : a.tmps[d]? = some (.bool b) := by
      rw [Array.getD_eq_getD_getElem?] at hb
      cases hq : a.tmps[d]? with
      | none => rw [hq] at hb; cases hb
      | some x => rw [hq] at hb; rw [← hb]; rfl
    rw [hg] at hy
    rw [hy]
    cases b <;> cases want <;> rfl
  | tuple cs =>
    obtain ⟨ys, hu, _⟩ := ht.tuple_inv
    have hg : a.tmps[d]? = none ∨ a.tmps[d]? = some (.tuple ys) := by
      rw [Array.getD_eq_getD_getElem?] at hu
      cases hq : a.tmps[d]? with
      | none => exact .inl rfl
      | some x => rw [hq] at hu; exact .inr (by rw [← hu]; rfl)
    rcases hg with hg | hg <;> (rw [hg] at hy; rw [hy]; rfl)
  | _ => exact True.intro
theorem Rel.pendEq {p q : Nat → Prop} (h : ∀ b, p b ↔ q b) (hR : Rel P B W0 p s m w) : Rel P B W0 q s m w := by
  have : p = q := funext fun b => propext (h b)
  rw [← this]; exact hR
/-- A block that was laid ahead comes to be. -/
theorem Rel.comes {p q : Nat → Prop} (hR : Rel P B W0 p s m w) {b : Nat} (hb : p b) (hq : ∀ x, q x ↔ (p x ∧ x ≠ b)) {cs : List Value} {t : TypeId} (hg : s.get b = some (.row cs t false)) {C : Array Value}
    (hl : ∀ m' : Mp, (∀ x y, m x = some y → m' x = some y) → LRel m' s.dead cs C.toList) : ∃ m', m' b = some (w.heap.size, C.size, P.cellsOf t) ∧ Rel P B W0 q s m' { w with heap := w.heap.push (.cells C t) } ∧ (∀ x y, m x = some y → m' x = some y) ∧ (∀ x, x ≠ b → m' x = m x) := by
  have hmn := hR.pnone b hb
  let m' : Mp := fun x => if x = b then some (w.heap.size, C.size, P.cellsOf t) else m x
  have hself : m' b = some (w.heap.size, C.size, P.cellsOf t) := by simp [m']
  have hne : ∀ x, x ≠ b → m' x = m x := fun x hx => by simp [m', hx]
  have hext : ∀ x y, m x = some y → m' x = some y := fun x y hx => by rw [hne x (fun e => by rw [e, hmn] at hx; cases hx)]; exact hx
  have hold : ∀ k, k < w.heap.size → ({ w with heap := w.heap.push (.cells C t) } : World).heap[k]? = w.heap[k]? := fun k hk => by simp [Array.getElem?_push, Nat.ne_of_lt hk]
  have hnew : ({ w with heap := w.heap.push (.cells C t) } : World).heap[w.heap.size]? = some (.cells C t) := by simp
  refine ⟨m', hself, ?_, hext, hne⟩
  constructor
  · exact hR.fresh
  · intro x o hx hp
    by_cases e : x = b
    · subst e
      rw [hg] at hx
      cases hx
      refine ⟨w.heap.size, C, (0, 0), hself, hnew, fun _ => ⟨rfl, fun hb => Nat.lt_irrefl _ (hR.size _ hb)⟩, ?_⟩
      have := hl m' hext
      rw [this.1, List.take_length]
      exact this
    · exact (hR.live x o hx (fun h => hp ((hq x).2 ⟨h, e⟩))).move hext (fun _ h => h) (fun _ c N z hm' => hold c (hR.mlt _ _ _ _ hm').2) fun _ _ _ _ _ h => h
  · intro x hx; obtain ⟨h1, h2⟩ := (hq x).1 hx; rw [hne x h2]; exact hR.pnone x h1
  · intro x hx; exact hR.plt x ((hq x).1 hx).1
  · intro x c N' z' hm'
    have hsz : ({ w with heap := w.heap.push (.cells C t) } : World).heap.size = w.heap.size + 1 := by simp
    by_cases e : x = b
    · subst e; rw [hself] at hm'; cases hm'; exact ⟨hR.plt _ hb, by rw [hsz]; omega⟩
    · rw [hne x e] at hm'; have := hR.mlt _ _ _ _ hm'; exact ⟨this.1, by rw [hsz]; omega⟩
  · intro x x' c N1 z1 N2 z2 h1 h2 hd1 hd2
    by_cases e1 : x = b <;> by_cases e2 : x' = b
    · rw [e1, e2]
    · subst e1; rw [hself] at h1; rw [hne _ e2] at h2; cases h1; have := (hR.mlt _ _ _ _ h2).2; omega
    · subst e2; rw [hself] at h2; rw [hne _ e1] at h1; cases h2; have := (hR.mlt _ _ _ _ h1).2; omega
    · rw [hne _ e1] at h1; rw [hne _ e2] at h2; exact hR.inj _ _ _ _ _ _ _ h1 h2 hd1 hd2
  · intro i hi; rw [hold i (hR.size i hi)]; exact hR.old i hi
  · intro i hi; have := hR.size i hi; simp; omega
  · exact hR.os
  · exact hR.out
  · intro g hg'; obtain ⟨N', z', h⟩ := hR.glob g hg'; exact ⟨N', z', hext _ _ h⟩
/-- A block is laid ahead. -/
theorem Rel.ahead (hR : Rel P B W0 pend s m w) (o : AObj) (hdo : o ≠ .dead) : Rel P B W0 (fun b => pend b ∨ b = s.next) (s.new o) m w ∧ Ext s m (s.new o) m := by
  have hmn : m s.next = none := by
    cases e : m s.next with
    | none => rfl
    | some x => obtain ⟨c, N, z⟩ := x; exact absurd (hR.mlt _ _ _ _ e).1 (Nat.lt_irrefl _)
  have hgn : s.get s.next = none := by
    cases e : s.get s.next with
    | none => rfl
    | some x => exact absurd (hR.fresh _ _ e) (Nat.lt_irrefl _)
  have hd : (s.new o).dead = s.dead := by
    funext x
    simp only [AS.dead, AS.get_new]
    split
    · rename_i e
      rw [e, hgn]
      simp only [Option.some.injEq, eq_iff_iff, reduceCtorEq, iff_false]
      exact hdo
    · rfl
  refine ⟨?_, ⟨fun _ _ h => h, fun _ _ => rfl, fun b hb => by rw [hd]; exact hb, by rw [AS.new_next]; omega, fun b k hk => by
    rw [AS.get_new]
    split
    · rename_i e; rw [e] at hk; exact absurd (hR.fresh _ _ hk) (Nat.lt_irrefl _)
    · exact ⟨k.st, hk⟩⟩⟩
  constructor
  · intro b o' hg
    rw [AS.get_new] at hg
    rw [AS.new_next]
    split at hg
    · rename_i e; omega
    · have := hR.fresh _ _ hg; omega
  · intro b o' hg hp
    rw [hd]
    rw [AS.get_new] at hg
    split at hg
    · rename_i e; exact absurd (.inr e) hp
    · exact hR.live b o' hg (fun h => hp (.inl h))
  · rintro b (h | rfl)
    · exact hR.pnone b h
    · exact hmn
  · rintro b (h | rfl)
    · rw [AS.new_next]; have := hR.plt b h; omega
    · rw [AS.new_next]; omega
  · intro b c N z h; rw [AS.new_next]; have := hR.mlt _ _ _ _ h; exact ⟨by omega, this.2⟩
  · intro b b' c N1 z1 N2 z2 h1 h2 hd1 hd2; rw [hd] at hd1 hd2; exact hR.inj _ _ _ _ _ _ _ h1 h2 hd1 hd2
  · exact hR.old
  · exact hR.size
  · exact hR.os
  · exact hR.out
  · exact hR.glob
theorem preK_cons (e : DI) (l : List DI) (h : List (List Value)) (s : AS) : preK (e :: l) h s = match e.cd with | .alloc z t => preK l h (s.new (.row z t false)) | .lay el _ _ => preK l (tailK h) (s.new (.row (headK h) el false)) | _ => preK l h s := by
  show (match e.cd with | .alloc z t => preK l h (s.new (.row z t false)) | .lay el _ _ => preK l (tailK h) (s.new (.row (headK h) el false)) | _ => preK l h s) = _
  cases e.cd <;> rfl
theorem preNo_cons (e : DI) (l : List DI) : preNo (e :: l) = preNo l + (if isAlloc e.cd = true then 1 else 0) := by
  show (match e.cd with | .alloc _ _ => preNo l + 1 | .lay _ _ _ => preNo l + 1 | _ => preNo l) = _
  cases e.cd <;> rfl
theorem preK_ok : ∀ (l : List DI) (h : List (List Value)) (pend : Nat → Prop) (s : AS), Rel P B W0 pend s m w → Rel P B W0 (fun b => pend b ∨ ∃ i d, l[i]? = some d ∧ isAlloc d.cd = true ∧ b = s.next + preNo (l.take i)) (preK l h s) m w ∧ Ext s m (preK l h s) m := by
  intro l
  induction l with
  | nil => intro h pend s hR; exact ⟨hR.pendEq fun b => ⟨.inl, fun h => h.elim id fun ⟨i, d, h, _⟩ => by simp at h⟩, Ext.refl _ _⟩
  | cons e l ih =>
    intro h pend s hR
    rw [preK_cons]
    have other : isAlloc e.cd = false → Rel P B W0 (fun b => pend b ∨ ∃ i d, (e :: l)[i]? = some d ∧ isAlloc d.cd = true ∧ b = s.next + preNo ((e :: l).take i)) (preK l h s) m w ∧ Ext s m (preK l h s) m := by
      intro ha
      obtain ⟨h1, h2⟩ := ih h pend s hR
      refine ⟨h1.pendEq fun b => or_congr Iff.rfl ⟨?_, ?_⟩, h2⟩
      · rintro ⟨i, d, g1, g2, g3⟩
        exact ⟨i + 1, d, by simpa using g1, g2, by rw [List.take_succ_cons, preNo_cons, ha]; simpa using g3⟩
      · rintro ⟨i, d, g1, g2, g3⟩
        cases i with
        | zero => simp at g1; subst g1; rw [ha] at g2; cases g2
        | succ i => rw [List.take_succ_cons, preNo_cons, ha] at g3; exact ⟨i, d, by simpa using g1, g2, by simpa using g3⟩
    have laid : isAlloc e.cd = true → ∀ (o : AObj) (h' : List (List Value)), o ≠ .dead → Rel P B W0 (fun b => pend b ∨ ∃ i d, (e :: l)[i]? = some d ∧ isAlloc d.cd = true ∧ b = s.next + preNo ((e :: l).take i)) (preK l h' (s.new o)) m w ∧ Ext s m (preK l h' (s.new o)) m := by
      intro ha o h' ho
      obtain ⟨h1, h2⟩ := hR.ahead o ho
      obtain ⟨h3, h4⟩ := ih h' _ _ h1
      refine ⟨h3.pendEq fun b => ?_, h2.trans h4⟩
      rw [AS.new_next]
      constructor
      · rintro ((h | h) | ⟨i, d, g1, g2, g3⟩)
        · exact .inl h
        · exact .inr ⟨0, e, rfl, ha, by simpa [preNo] using h⟩
        · exact .inr ⟨i + 1, d, by simpa using g1, g2, by rw [List.take_succ_cons, preNo_cons, ha, if_pos rfl]; omega⟩
      · rintro (h | ⟨i, d, g1, g2, g3⟩)
        · exact .inl (.inl h)
        · cases i with
          | zero => exact .inl (.inr (by simpa [preNo] using g3))
          | succ i => rw [List.take_succ_cons, preNo_cons, ha, if_pos rfl] at g3; exact .inr ⟨i, d, by simpa using g1, g2, by omega⟩
    cases hc : e.cd with
    | alloc z t => exact laid (by rw [hc]; rfl) _ _ (by simp)
    | lay el n g => exact laid (by rw [hc]; rfl) _ _ (by simp)
    | val g => exact other (by rw [hc]; rfl)
    | look g => exact other (by rw [hc]; rfl)
    | act g => exact other (by rw [hc]; rfl)
    | bad => exact other (by rw [hc]; rfl)
theorem preNo_take (l : List DI) : ∀ (i j : Nat) (d : DI), i < j → l[i]? = some d → isAlloc d.cd = true → preNo (l.take i) < preNo (l.take j) := by
  induction l with
  | nil => intro i j d _ h; simp at h
  | cons e l ih =>
    intro i j d hij h ha
    cases j with
    | zero => omega
    | succ j =>
      cases i with
      | zero => simp at h; subst h; rw [List.take_succ_cons, preNo_cons, if_pos ha]; simp [preNo]
      | succ i =>
        rw [List.take_succ_cons, List.take_succ_cons, preNo_cons, preNo_cons]
        have := ih i j d (by omega) (by simpa using h) ha
        omega
end
end Go.Proofs.YtbbknbmmpkpgdaaGreatDoor.KAb
