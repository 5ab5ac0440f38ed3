import Derived.Test.YtbbknbmmpkpgdaaGreatDoorKLook7
import Derived.Laws.Tables
namespace Go.Proofs.YtbbknbmmpkpgdaaGreatDoor.KAb
section
variable {P : Program} {B : Nat → Prop} {W0 : World} {pend : Nat → Prop} {s : AS} {m : Mp} {w : World}

/-! Structs and arrays put together. -/
inductive PRel (m : Mp) (dead : Nat → Prop) : List (Nat × Value) → List (Nat × Value) → Prop
  | nil : PRel m dead [] []
  | cons (i : Nat) (v u : Value) (xs ys : List (Nat × Value)) (h : VRel m dead v u) (hs : PRel m dead xs ys) : PRel m dead ((i, v) :: xs) ((i, u) :: ys)
theorem fold_splice (vs : List Value) : ∀ (k off : Nat) (cs : Array Value), off + k + vs.length ≤ cs.size →
    ((vs.zipIdx k).foldl (fun (cs : Array Value) (p : Value × Nat) => cs.setIfInBounds (off + p.2) p.1) cs).toList = splice cs.toList (off + k) vs := by
  induction vs with
  | nil => intro k off cs _; simp [splice_eq]
  | cons v vs ih =>
    intro k off cs h
    simp only [List.zipIdx_cons, List.foldl_cons]
    rw [ih (k + 1) off _ (by simp at h ⊢; omega)]
    simp only [splice_eq, Array.toList_setIfInBounds, List.length_cons]
    simp only [List.length_cons] at h
    apply List.ext_getElem?
    intro j
    have hsz : cs.toList.length = cs.size := by simp
    simp only [List.getElem?_append, List.getElem?_take, List.getElem?_drop, List.length_take, List.length_set, hsz, List.getElem?_set, List.getElem?_cons, List.length_cons]
    by_cases h1 : j < off + k
    · simp [h1, show j < off + (k + 1) by omega, show min (off + (k + 1)) cs.size = off + (k + 1) by omega, show min (off + k) cs.size = off + k by omega, show off + k ≠ j by omega]
    · by_cases h2 : j = off + k
      · subst h2
        simp [show off + k < off + (k + 1) by omega, show min (off + (k + 1)) cs.size = off + (k + 1) by omega, show min (off + k) cs.size = off + k by omega, show off + k < cs.size by omega]
      · have h3 : ¬ j < off + (k + 1) := by omega
        have h4 : ¬ j - (off + k) = 0 := by omega
        simp only [h1, h3, if_false, show min (off + (k + 1)) cs.size = off + (k + 1) by omega, show min (off + k) cs.size = off + k by omega, h4]
        have e1 : j - (off + k) - 1 = j - (off + (k + 1)) := by omega
        by_cases h5 : j - (off + (k + 1)) < vs.length
        · rw [if_pos h5, if_pos (by omega), e1]
        · rw [if_neg h5, if_neg (by omega)]
          rw [if_neg (by omega)]
          congr 1
          omega
theorem fill_rel {dead : Nat → Prop} {place : Nat → Option (Nat × Nat)} {parts qarts : List (Nat × Value)} (hp : PRel m dead parts qarts) : ∀ {cells : List Value} {ds : Array Value} {cs : List Value},
    fillK place parts cells = some cs → LRel m dead cells ds.toList → ∃ es, Instr.fill place ds qarts = some es ∧ LRel m dead cs es.toList := by
  induction hp with
  | nil => intro cells ds cs h hl; cases h; exact ⟨ds, rfl, hl⟩
  | cons i v u xs ys hv _ ih =>
    intro cells ds cs h hl
    have h' : (match place i with
      | none => none
      | some q => bif' (bif' (known v) (Nat.beq (lenK v.cells.toList) q.2) false) (bif' (Nat.ble (Nat.add q.1 q.2) (lenK cells)) (fillK place xs (splice cells q.1 v.cells.toList)) none) none : Option (List Value)) = some cs := h
    cases hpl : place i with
    | none => rw [hpl] at h'; cases h'
    | some q =>
      obtain ⟨off, size⟩ := q
      rw [hpl] at h'
      cases hk : known v with
      | false => rw [hk] at h'; cases h'
      | true =>
        rw [hk] at h'
        simp only [bif', brec, Nat.beq_eq, Nat.ble_eq, lenK_eq] at h'
        split at h'
        · rename_i hsz
          split at h'
          · rename_i hle
            have hnp : v ≠ poison := by rintro rfl; cases hk
            have hcl := lrel_cells hv hnp
            have hsz' : u.cells.size = size := by have := hcl.1; simp only [Array.length_toList] at this; rw [← this]; simpa using hsz
            have hlen : cells.length = ds.size := by rw [hl.1]; simp
            have hle' : off + u.cells.size ≤ ds.size := by rw [hsz', ← hlen]; exact hle
            have hfold := fold_splice u.cells.toList 0 off ds (by simpa using hle')
            obtain ⟨es, h1, h2⟩ := ih (ds := u.cells.zipIdx.foldl (fun cs (c, j) => cs.setIfInBounds (off + j) c) ds) h' (by
              rw [← Array.foldl_toList, Array.toList_zipIdx, hfold, Nat.add_zero]
              exact hl.splice hcl off)
            refine ⟨es, ?_, h2⟩
            simp only [Instr.fill, hpl]
            rw [if_neg (by simp [hsz']; omega)]
            exact h1
          · cases h'
        · cases h'
theorem placesOf_ok {fields : List Field} {l : List (Nat × Nat)} (h : placesOf P fields = some l) : fields.mapM (fun f => (P.info? f.type).map fun i => (f.offset, i.size)) = some l := by
  induction fields generalizing l with
  | nil => cases h; rfl
  | cons f fields ih =>
    have h' : (match placesOf P fields with | none => none | some l => (match tsize P f.type with | some n => some ((f.offset, n) :: l) | none => none) : Option (List (Nat × Nat))) = some l := h
    cases hr : placesOf P fields with
    | none => rw [hr] at h'; cases h'
    | some r =>
      rw [hr] at h'
      cases hs : tsize P f.type with
      | none => rw [hs] at h'; cases h'
      | some n =>
        rw [hs] at h'
        cases h'
        obtain ⟨i, hi, rfl⟩ := tsize_some hs
        simp [List.mapM_cons, hi, ih hr]
theorem build_ls {t : TypeId} {z : Value} {p : Place} (hz : tzero P t = some z) (hb : bkind P t = .ok p) {parts : List (Nat × Value)} {qarts : Array (Nat × Value)} (hp : PRel m s.dead parts qarts.toList) :
    LS P s m w (doBuild p z.cells.toList parts) (Instr.build t qarts) := by
  intro y h
  unfold doBuild at h
  split at h
  · rename_i cs hf
    cases h
    obtain ⟨i, hi, hz', hfl⟩ := tzero_some hz
    have hzr : LRel m s.dead z.cells.toList z.cells.toList := lrel_cells (vrel_flat hfl) (by rintro rfl; cases hfl)
    obtain ⟨es, h1, h2⟩ := fill_rel hp hf hzr
    refine ⟨.agg es, run_build w t qarts es ?_, vrel_agg (by simpa using h2)⟩
    unfold bkind at hb
    unfold Program.built
    split at hb
    · rename_i fields hd
      split at hb
      · rename_i l hl
        cases hb
        rw [hi, hd]
        simp only [hz', placesOf_ok hl]
        have e : (fun i => nthK i l) = (fun x => l.toArray[x]?) := by funext x; rw [nthK_eq]; simp
        simp only [e] at h1
        exact h1
      · cases hb
    · rename_i k e hd
      split at hb
      · rename_i n hn
        cases hb
        obtain ⟨ie, hie, rfl⟩ := tsize_some hn
        rw [hi, hd]
        simp only [hz', hie]
        exact h1
      · cases hb
    · cases hb
  · cases h

/-! Maps keyed by strings. -/
theorem mapElem_some {t e : TypeId} (h : mapElem P t = some e) : ∃ k, P.underlying t = some (.map k e) ∧ P.underlying k = some .string := by
  unfold mapElem at h
  split at h
  · rename_i k e' hd
    split at h
    · rename_i hk; cases h; exact ⟨k, hd, hk⟩
    · cases h
  · cases h
theorem isStr_ok {x : Value} (h : isStr x = true) : ∃ b, x = .string b := by
  cases x <;> simp [isStr] at h
  exact ⟨_, rfl⟩
theorem beq_bytes (a b : ByteArray) : (a == b) = (a.data.toList == b.data.toList) := by
  cases a with | mk a => cases b with | mk b =>
  show (a == b) = (a.toList == b.toList)
  rw [Bool.eq_iff_iff, beq_iff_eq, beq_iff_eq]
  exact ⟨fun h => by rw [h], Array.ext'⟩
/-- What is found in both. -/
inductive FR (m : Mp) (dead : Nat → Prop) : FK → Option (Nat × Value) → Prop
  | found (i : Nat) (e : MapEntry) (u : Value) (h : VRel m dead e.val u) : FR m dead (.found i e) (some (i, u))
  | not : FR m dead .not none
theorem findK_cons (k : Value) (e : MapEntry) (l : List MapEntry) (i : Nat) : findK k (e :: l) i = (match eqK k e.key with | some true => .found i e | some false => findK k l (i + 1) | none => .bad) := rfl
theorem findK_ok {dead : Nat → Prop} {a : ByteArray} {es fs : List MapEntry} (h : EntR m dead es fs) : ∀ (i : Nat), findK (.string a) es i ≠ .bad → ∃ r, Instr.findNow .string (.string a) fs i = some r ∧ FR m dead (findK (.string a) es i) r := by
  induction es generalizing fs with
  | nil =>
    intro i _
    have : fs = [] := List.eq_nil_of_length_eq_zero (by simpa using h.1.symm)
    subst this
    exact ⟨none, rfl, .not⟩
  | cons e es ih =>
    intro i hb
    cases fs with
    | nil => have := h.1; simp at this
    | cons f fs =>
      obtain ⟨h1, h3, h4⟩ := h.2 0 e f rfl rfl
      have ht : EntR m dead es fs := ⟨by simpa using h.1, fun j x y hx hy => h.2 (j + 1) x y (by simpa using hx) (by simpa using hy)⟩
      rw [findK_cons] at hb ⊢
      cases hek : e.key with
      | string b =>
        rw [hek] at hb h1
        simp only [Instr.findNow, h1, Instr.sameNow, eqK, eqL8_eq, beq_bytes] at hb ⊢
        cases hc : (a.data.toList == b.data.toList)
        · rw [hc] at hb
          exact ih ht (i + 1) hb
        · exact ⟨_, rfl, .found i e f.val h4⟩
      | _ => rw [hek] at hb; exact absurd rfl hb
theorem checkKey_str {k : TypeId} (hk : P.underlying k = some .string) (e : Bool) (a : ByteArray) (w : World) : (Instr.checkKey e 10000 k (.string a)).run P w = .ok () w := by
  have : ∀ n, (Instr.checkKey e (n + 1) k (.string a)).run P w = .ok () w := by
    intro n
    simp only [Instr.checkKey, Sem.run_bind, run_underlying hk, Result.andThen_ok, Sem.run_pure]
  exact this 9999
theorem findKey_str {k : TypeId} (hk : P.underlying k = some .string) {a : ByteArray} {fs : List MapEntry} {r : Option (Nat × Value)} (h : Instr.findNow .string (.string a) fs 0 = some r) (w : World) :
    (Instr.findKey k (.string a) fs).run P w = .ok r w := by
  simp only [Instr.findKey, Sem.run_bind, run_underlying hk, Result.andThen_ok, h, Sem.run_pure]
theorem Rel.map (hR : Rel P B W0 pend s m w) {r : Nat} {u : Value} (hx : VRel m s.dead (.map (some r)) u) {es : List MapEntry} {c : Nat} (hg : s.get r = some (.mp es c)) : ∃ k fs, u = .map (some k) ∧ MapAt B m s.dead w r k es c fs := by
  obtain ⟨k, N, z, rfl, hm⟩ := hx.map_inv
  obtain ⟨k', fs, h⟩ := hR.live r _ hg (hR.not_pend hm)
  obtain ⟨N', z', hm'⟩ := h.mb
  rw [hm] at hm'
  cases hm'
  exact ⟨k, fs, rfl, h⟩
theorem lookup_ls (hR : Rel P B W0 pend s m w) {t e : TypeId} {z : Value} (he : mapElem P t = some e) (hz : tzero P e = some z) {x k u v : Value} {ok : Bool} (hx : VRel m s.dead x u) (hk : VRel m s.dead k v) :
    LS P s m w (doLookup z x k ok s) (Instr.lookup t u v ok) := by
  intro y h
  obtain ⟨kt, hd, hkd⟩ := mapElem_some he
  obtain ⟨i, hi, hz', hfl⟩ := tzero_some hz
  unfold doLookup at h
  split at h
  · simp only [bif', brec] at h
    split at h
    · rename_i hs
      obtain ⟨b, rfl⟩ := isStr_ok hs
      have := hk.string_inv; subst this
      have := hx.mnil_inv; subst this
      cases h
      refine ⟨_, ?_, lookRes_rel (vrel_flat hfl)⟩
      simp only [Instr.lookup, Sem.run_bind, run_underlying hd, Result.andThen_ok, Sem.run_pure, checkKey_str hkd, findKey_str hkd (show Instr.findNow .string (.string b) [] 0 = some none from rfl), run_zero hi hz']
    · cases h
  · rename_i r
    split at h
    · rename_i es c hg
      simp only [bif', brec] at h
      split at h
      · rename_i hs
        obtain ⟨b, rfl⟩ := isStr_ok hs
        have := hk.string_inv; subst this
        obtain ⟨k, fs, rfl, hmp⟩ := hR.map hx hg
        have hnb : findK (.string b) es 0 ≠ .bad := fun e => by rw [e] at h; cases h
        obtain ⟨res, hres, hfr⟩ := findK_ok (a := b) hmp.rel 0 hnb
        have hget : (getObj k).run P w = .ok (.map fs c) w := by simp [getObj, Sem.run, hmp.hc]
        split at h
        · rename_i j en hf
          rw [hf] at hfr
          cases hfr with
          | found _ _ q hq =>
            cases h
            refine ⟨_, ?_, lookRes_rel hq⟩
            simp only [Instr.lookup, Sem.run_bind, run_underlying hd, Result.andThen_ok, hget, Sem.run_pure, checkKey_str hkd, findKey_str hkd hres]
        · rename_i hf
          rw [hf] at hfr
          cases hfr
          cases h
          refine ⟨_, ?_, lookRes_rel (vrel_flat hfl)⟩
          simp only [Instr.lookup, Sem.run_bind, run_underlying hd, Result.andThen_ok, hget, Sem.run_pure, checkKey_str hkd, findKey_str hkd hres, run_zero hi hz']
        · cases h
      · cases h
    · cases h
  · cases h
theorem len_ls (hR : Rel P B W0 pend s m w) {argTypes : Array TypeId} {type : TypeId} {x u : Value} (hx : VRel m s.dead x u) : LS P s m w (doLen (lenKind P argTypes[0]?) x s) (Builtin.len_ argTypes type #[u]) := by
  intro y h
  cases ht : argTypes[0]? with
  | none => rw [ht] at h; cases h
  | some t =>
    rw [ht] at h
    simp only [lenKind] at h
    split at h
    · rename_i e hd
      simp only [doLen] at h
      split at h
      · rename_i a n c
        cases h
        obtain ⟨b, k, rfl⟩ : ∃ b k, u = .slice b n k := by
          cases a with
          | none => obtain ⟨rfl, rfl, rfl⟩ := hx.snil_inv; exact ⟨_, _, rfl⟩
          | some a =>
            rcases hx.slice_inv with ⟨b', o', c, N, z, cap, rfl, rfl, _⟩ | ⟨y', rfl, rfl, hh⟩ | ⟨_, y', cap, rfl, _⟩ <;> exact ⟨_, _, rfl⟩
        exact ⟨.int .i64 (n : Int), by simp [Builtin.len_, ht, run_underlying hd, goInt], .flat _ rfl⟩
      · cases h
    · rename_i hd
      simp only [doLen] at h
      split at h
      · rename_i b
        cases h
        have := hx.string_inv; subst this
        exact ⟨.int .i64 (b.size : Int), by simp [Builtin.len_, ht, run_underlying hd, goInt], by rw [lenK_eq]; exact .flat _ rfl⟩
      · cases h
    · rename_i k e hd
      simp only [doLen] at h
      unfold lenMap at h
      split at h
      · cases h
        have := hx.mnil_inv; subst this
        exact ⟨.int .i64 0, by simp [Builtin.len_, ht, run_underlying hd, goInt], .flat _ rfl⟩
      · rename_i r
        split at h
        · rename_i es c hg
          cases h
          obtain ⟨k, fs, rfl, hmp⟩ := hR.map hx hg
          have hget : (getObj k).run P w = .ok (.map fs c) w := by simp [getObj, Sem.run, hmp.hc]
          have hl : fs.size = es.length := by have := hmp.rel.1; simpa using this.symm
          exact ⟨.int .i64 (fs.size : Int), by simp [Builtin.len_, ht, run_underlying hd, goInt, hget], by rw [lenK_eq, hl]; exact .flat _ rfl⟩
        · cases h
      · cases h
    · cases h
end
end Go.Proofs.YtbbknbmmpkpgdaaGreatDoor.KAb
