import Derived.Test.YtbbknbmmpkpgdaaGreatDoorKAct
namespace Go.Proofs.YtbbknbmmpkpgdaaGreatDoor.KAb
section
variable {P : Program} {B : Nat → Prop} {W0 : World} {pend : Nat → Prop} {s : AS} {m : Mp} {w : World}

/-! Maps. -/
theorem findK_found {a : ByteArray} {es : List MapEntry} : ∀ {i j : Nat} {e : MapEntry}, findK (.string a) es i = .found j e → ∃ n, j = i + n ∧ es[n]? = some e ∧ e.key = .string a := by
  induction es with
  | nil => intro i j e h; cases h
  | cons x es ih =>
    intro i j e h
    rw [findK_cons] at h
    cases hk : x.key with
    | string b =>
      rw [hk] at h
      simp only [eqK] at h
      cases hc : eqL8 a.data.toList b.data.toList with
      | true =>
        rw [hc] at h
        cases h
        rw [eqL8_eq] at hc
        exact ⟨0, rfl, rfl, by rw [hk, bytes_ext (beq_iff_eq.1 hc)]⟩
      | false =>
        rw [hc] at h
        obtain ⟨n, h1, h2, h3⟩ := ih h
        exact ⟨n + 1, by omega, by simpa using h2, h3⟩
    | _ => rw [hk] at h; cases h
theorem setK_eq {α : Type} (i : Nat) (x : α) (l : List α) : setK i x l = l.take i ++ x :: l.drop (i + 1) := by
  simp only [setK, appK_eq, takeK_eq, dropK_eq]
  first | done | rfl
theorem setK_get {α : Type} (i : Nat) (x : α) (l : List α) (h : i < l.length) (j : Nat) : (setK i x l)[j]? = if j = i then some x else l[j]? := by
  rw [setK_eq, List.getElem?_append]
  simp only [List.length_take, Nat.min_eq_left (Nat.le_of_lt h)]
  split
  · rw [if_neg (by omega), List.getElem?_take, if_pos (by omega)]
  · by_cases e : j = i
    · subst e; simp
    · rw [if_neg e]
      have : j - i = (j - (i + 1)) + 1 := by omega
      rw [this, List.getElem?_cons_succ, List.getElem?_drop]
      congr 1; omega
theorem setK_length {α : Type} (i : Nat) (x : α) (l : List α) (h : i < l.length) : (setK i x l).length = l.length := by
  rw [setK_eq]; simp; omega
theorem keyStays (a : ByteArray) (w : World) : (Instr.keyThatStays (.string a) (.string a)).run P w = .ok (.string a) w := by
  have : Instr.sameBits 10000 (.string a) (.string a) = true := by
    show Instr.sameBits (9999 + 1) _ _ = true
    simp [Instr.sameBits, beq_bytes]
  simp [Instr.keyThatStays, this]
theorem mapUpdate_au (hR : Rel P B W0 pend s m w) {t e : TypeId} (he : mapElem P t = some e) {mp k x mu ku xu : Value} (hm : VRel m s.dead mp mu) (hk : VRel m s.dead k ku) (hx : VRel m s.dead x xu) :
    AU P B W0 pend s m w (doMapUpdate mp k x s) (Instr.mapUpdate t mu ku xu) := by
  intro v s' h
  obtain ⟨kt, hd, hkd⟩ := mapElem_some he
  unfold doMapUpdate at h
  split at h
  · rename_i r
    split at h
    · rename_i es c hg
      simp only [bif', brec] at h
      split at h
      · rename_i hs
        obtain ⟨b, rfl⟩ := isStr_ok hs
        have := hk.string_inv; subst this
        obtain ⟨q, fs, rfl, hmp⟩ := hR.map hm hg
        obtain ⟨N, z, hmb⟩ := hmp.mb
        have hnb : findK (.string b) es 0 ≠ .bad := fun e => by rw [e] at h; cases h
        obtain ⟨res, hres, hfr⟩ := findK_ok (a := b) hmp.rel 0 hnb
        have hget : (getObj q).run P w = .ok (.map fs c) w := by simp [getObj, Sem.run, hmp.hc]
        have hlt : q < w.heap.size := (Array.getElem?_eq_some_iff.1 hmp.hc).1
        have hset : ∀ ob, (setObj q ob).run P w = .ok () { w with heap := w.heap.setIfInBounds q ob } := fun ob => by simp [setObj, Sem.run, hmp.hc]
        have hnd : ¬ s.dead r := by simp [AS.dead, hg]
        have block : ∀ (es' : List MapEntry) (c' : Nat) (fs' : Array MapEntry), EntR m s.dead es' fs'.toList →
            Rel P B W0 pend (s.put r (.mp es' c')) m { w with heap := w.heap.setIfInBounds q (.map fs' c') } := by
          intro es' c' fs' hrel
          refine hR.setBlock (ob := .map fs' c') hmb hnd hmp.fr _ (by simp) (by simp [hlt]) (fun k hk => by simp [Ne.symm hk]) (by simp) rfl rfl ⟨q, fs', ⟨N, z, hmb⟩, by simp [hlt], hmp.fr, hrel⟩
        split at h
        · rename_i j en hf
          cases h
          rw [hf] at hfr
          cases hfr with
          | found _ _ u hq =>
            obtain ⟨n, hn, hen, hkey⟩ := findK_found hf
            have hj : j = n := by omega
            subst hj
            have hjl : j < es.length := (List.getElem?_eq_some_iff.1 hen).1
            have hfl : fs.toList.length = es.length := hmp.rel.1.symm
            obtain ⟨f, hfj⟩ : ∃ f, fs.toList[j]? = some f := ⟨_, List.getElem?_eq_getElem (by omega)⟩
            obtain ⟨g1, g3, g4⟩ := hmp.rel.2 j en f hen hfj
            have hfj' : fs[j]? = some f := by simpa using hfj
            refine ⟨rfl, m, _, ?_, block (setK j { key := en.key, val := x, born := en.born } es) c (fs.modify j fun e => { e with key := .string b, val := xu }) ?_, Ext.put hR hnd _ (fun k hk => by rw [hg] at hk; cases hk)⟩
            · simp only [Instr.mapUpdate, Sem.run_bind, run_underlying hd, Result.andThen_ok, hget, checkKey_str hkd, findKey_str hkd hres, hfj', Option.map_some, Option.getD_some, g1, hkey, keyStays, hset]
            · refine ⟨by rw [setK_length _ _ _ hjl, Array.toList_modify, List.length_modify]; exact hfl.symm, fun i e1 f1 h1 h2 => ?_⟩
              rw [setK_get _ _ _ hjl] at h1
              rw [Array.toList_modify, List.getElem?_modify] at h2
              by_cases hij : i = j
              · subst hij
                rw [if_pos rfl] at h1
                cases h1
                rw [hfj] at h2
                simp at h2
                subst h2
                exact ⟨hkey.symm, g3, hx⟩
              · rw [if_neg hij] at h1
                have h2' : fs.toList[i]? = some f1 := by
                  have hji : ¬ j = i := fun e => hij e.symm
                  simpa [hji] using h2
                exact hmp.rel.2 i e1 f1 h1 h2'
        · rename_i hf
          cases h
          rw [hf] at hfr
          cases hfr
          refine ⟨rfl, m, _, ?_, block _ (c + 1) (fs.push { key := .string b, val := xu, born := c }) ?_, Ext.put hR hnd _ (fun k hk => by rw [hg] at hk; cases hk)⟩
          · simp only [Instr.mapUpdate, Sem.run_bind, run_underlying hd, Result.andThen_ok, hget, checkKey_str hkd, findKey_str hkd hres, hset]
          · rw [appK_eq, Array.toList_push]
            have hl : es.length = fs.toList.length := hmp.rel.1
            refine ⟨by simp [hl], fun i e1 f1 h1 h2 => ?_⟩
            rw [List.getElem?_append] at h1 h2
            by_cases hi : i < es.length
            · rw [if_pos hi] at h1
              rw [if_pos (by omega)] at h2
              exact hmp.rel.2 i e1 f1 h1 h2
            · rw [if_neg hi] at h1
              rw [if_neg (by omega)] at h2
              rw [hl] at h1
              have h0 : i - fs.toList.length = 0 := by
                have := (List.getElem?_eq_some_iff.1 h1).1
                simp at this ⊢; omega
              rw [h0] at h1 h2
              cases h1; cases h2
              exact ⟨rfl, rfl, hx⟩
        · cases h
      · cases h
    · cases h
  · cases h

/-! What a slice or a string holds. -/
theorem srcCells (hR : Rel P B W0 pend s m w) {size n k : Nat} {x u : Value} {l : List Value} (hx : VRel m s.dead x u) (hk : lenV x = some k) (hnk : n ≤ k) (h : cellsV s size n x = some l) :
    ∃ us, LRel m s.dead l us ∧ l.length = n * size ∧ (∀ w', (Builtin.lenOf u).run P w' = .ok k w') ∧ ∀ w', w'.heap = w.heap → (Builtin.firstCells size n u).run P w' = .ok us.toArray w' := by
  cases x with
  | slice a len code =>
    cases hk
    obtain ⟨b, cap, us, rfl, h1, h2⟩ := hR.sliceCells hx h hnk
    refine ⟨us, h1, ?_, fun w' => rfl, h2⟩
    cases a with
    | none => obtain ⟨_, rfl, rfl⟩ := hx.snil_inv; cases h; rw [show n = 0 by omega]; simp
    | some a =>
      unfold cellsV at h
      split at h
      · simp only [bif', brec, Nat.beq_eq] at h
        split at h
        · rename_i h0; cases h; subst h0; simp
        · rw [rd_eq] at h
          split at h
          · split at h
            · rename_i hle; cases h
              have : Nat.mul n size = n * size := rfl
              simp at hle ⊢; omega
            · cases h
          · cases h
      · rename_i heq; cases heq
      · rename_i heq; cases heq
      · cases h
  | string b =>
    have := hx.string_inv; subst this
    simp only [lenV] at hk
    cases hk
    rw [lenK_eq] at hnk
    simp only [cellsV, bif', brec, Nat.beq_eq] at h
    split at h
    · rename_i h1
      cases h
      subst h1
      have hb : b.data.toList.length = b.size := by simp
      refine ⟨(bytesV b.data.toList).take n, ?_, ?_, fun w' => by rw [lenK_eq, hb]; rfl, fun w' _ => ?_⟩
      · rw [takeK_eq]; exact (lrel_ints _).take n
      · rw [takeK_eq, bytesV_eq]; simp; omega
      · simp only [Builtin.firstCells, Sem.run_pure]
        congr 1
        apply Array.ext'
        rw [bytesV_eq]
        simp [ByteArray.data_extract]
    · cases h
  | _ => cases hk
theorem lenV_ok {dead : Nat → Prop} {x u : Value} {k : Nat} (hx : VRel m dead x u) (hk : lenV x = some k) : (∀ w', (Builtin.lenOf u).run P w' = .ok k w') ∧ ∀ size w', (Builtin.firstCells size 0 u).run P w' = .ok #[] w' := by
  cases x with
  | slice a len code =>
    cases hk
    obtain ⟨b, cap, rfl⟩ : ∃ b cap, u = .slice b k cap := by
      cases a with
      | none => obtain ⟨rfl, rfl, rfl⟩ := hx.snil_inv; exact ⟨_, _, rfl⟩
      | some a => rcases hx.slice_inv with ⟨b', o', c, N, z, cap, rfl, rfl, _⟩ | ⟨y', rfl, rfl, hh⟩ | ⟨_, y', cap, rfl, _⟩ <;> exact ⟨_, _, rfl⟩
    refine ⟨fun w' => rfl, fun size w' => ?_⟩
    cases b <;> simp [Builtin.firstCells, loadCells, loadCellsFrom]
  | string b =>
    have := hx.string_inv; subst this
    cases hk
    have hb : b.data.toList.length = b.size := by simp
    refine ⟨fun w' => by rw [lenK_eq, hb]; rfl, fun size w' => ?_⟩
    simp only [Builtin.firstCells, Sem.run_pure]
    congr 1
    apply Array.ext'
    simp
  | _ => cases hk
/-- Cells that are copied. -/
theorem copy_av (hR : Rel P B W0 pend s m w) {argTypes : Array TypeId} {type t e : TypeId} {size : Nat} (ht : argTypes[0]? = some t) (he : sliceElem P t = some e) (hs : tsize P e = some size) {d x du xu : Value} (hd : VRel m s.dead d du) (hx : VRel m s.dead x xu) :
    AV P B W0 pend s m w (doCopy size d x s) (Builtin.copy_ argTypes type #[du, xu]) := by
  intro v s' h
  obtain ⟨i, hi, rfl⟩ := tsize_some hs
  unfold doCopy at h
  split at h
  · rename_i a dLen code
    split at h
    · rename_i k hk
      have hmin : bif' (Nat.ble k dLen) k dLen = min k dLen := by
        simp only [bif', brec, Nat.ble_eq]
        split <;> omega
      rw [hmin] at h
      obtain ⟨h3, h0⟩ := lenV_ok (P := P) hx hk
      unfold copy1 at h
      simp only [bif', brec, Nat.beq_eq] at h
      split at h
      · rename_i hz
        cases h
        obtain ⟨b, cap, rfl⟩ : ∃ b cap, du = .slice b dLen cap := by
          cases a with
          | none => obtain ⟨rfl, rfl, rfl⟩ := hd.snil_inv; exact ⟨_, _, rfl⟩
          | some a => rcases hd.slice_inv with ⟨b', o', c, N, z, cap, rfl, rfl, _⟩ | ⟨y', rfl, rfl, hh⟩ | ⟨_, y', cap, rfl, _⟩ <;> exact ⟨_, _, rfl⟩
        refine ⟨m, w, .int .i64 0, ?_, hR, Ext.refl _ _, .flat _ rfl⟩
        cases b <;> simp [Builtin.copy_, ht, run_underlying (sliceElem_some he), h3, run_size hi, hz, h0, storeCells, goInt]
      · split at h
        · rename_i b off
          split at h
          · rename_i cs hcs
            split at h
            · rename_i s1 hwr
              cases h
              obtain ⟨us, h1, h2, _, h4⟩ := srcCells hR hx hk (Nat.min_le_left _ _) hcs
              have hg : ∃ ds el ro, s.get b = some (.row ds el ro) := by
                rw [wr_eq] at hwr
                split at hwr
                · rename_i ds el hg; exact ⟨ds, el, _, hg⟩
                · cases hwr
              obtain ⟨ds, el, ro, hg⟩ := hg
              rcases hd.slice_inv with ⟨b', o', c, N, z, cap, e', rfl, hm, hex, hl, hN⟩ | ⟨y, rfl, rfl, hh⟩ | ⟨hdd, _⟩
              · cases e'
                obtain ⟨c', w', e1, g1, g2, g3⟩ := hR.write hwr (.ptr b off c N z hm) h1
                cases e1
                refine ⟨m, w', .int .i64 (min k dLen : Nat), ?_, g2, g3, .flat _ rfl⟩
                simp [Builtin.copy_, ht, run_underlying (sliceElem_some he), h3, run_size hi, h4 w rfl, g1, goInt]
              · omega
              · simp only [AS.dead] at hdd; rw [hdd] at hg; cases hg
            · cases h
          · cases h
        · cases h
    · cases h
  · cases h
end
end Go.Proofs.YtbbknbmmpkpgdaaGreatDoor.KAb
