import Derived.Test.YtbbknbmmpkpgdaaGreatDoorKAct2
namespace Go.Proofs.YtbbknbmmpkpgdaaGreatDoor.KAb
section
variable {P : Program} {B : Nat → Prop} {W0 : World} {pend : Nat → Prop} {s : AS} {m : Mp} {w : World}
/-! Maps with keys of any type: the model's own search goes by the keys alone. -/
/-- The same place, found in the stripped entries and in the entries. -/
def Mt (fs : List MapEntry) (i : Nat) (r r' : Option (Nat × Value)) : Prop := (r = none ∧ r' = none) ∨ ∃ n f, fs[n]? = some f ∧ r = some (i + n, undef) ∧ r' = some (i + n, f.val)
theorem Mt.succ {f : MapEntry} {fs : List MapEntry} {i : Nat} {r r' : Option (Nat × Value)} (h : Mt fs (i + 1) r r') : Mt (f :: fs) i r r' := by
  rcases h with h | ⟨n, g, h1, h2, h3⟩
  · exact .inl h
  · exact .inr ⟨n + 1, g, by simpa using h1, by rw [h2]; congr 2; omega, by rw [h3]; congr 2; omega⟩
theorem stripK_eq (es : List MapEntry) : stripK es = es.map fun e => { key := e.key, val := undef, born := 0 } := mapK_eq _ _
theorem findNow_strip {kd : TypeDesc} {k : Value} : ∀ {es fs : List MapEntry} (_ : es.map (·.key) = fs.map (·.key)) (i : Nat),
    (Instr.findNow kd k (stripK es) i = none ∧ Instr.findNow kd k fs i = none) ∨ ∃ r r', Instr.findNow kd k (stripK es) i = some r ∧ Instr.findNow kd k fs i = some r' ∧ Mt fs i r r' := by
  intro es
  induction es with
  | nil =>
    intro fs h i
    have : fs = [] := by simpa using h.symm
    subst this
    exact .inr ⟨none, none, rfl, rfl, .inl ⟨rfl, rfl⟩⟩
  | cons e es ih =>
    intro fs h i
    cases fs with
    | nil => simp at h
    | cons f fs =>
      simp only [List.map_cons, List.cons.injEq] at h
      rw [stripK_eq, List.map_cons, ← stripK_eq]
      simp only [Instr.findNow, h.1]
      cases Instr.sameNow kd k f.key with
      | none => exact .inl ⟨rfl, rfl⟩
      | some b =>
        cases b with
        | true => exact .inr ⟨_, _, rfl, rfl, .inr ⟨0, f, rfl, rfl, rfl⟩⟩
        | false =>
          rcases ih h.2 (i + 1) with h1 | ⟨r, r', h1, h2, h3⟩
          · exact .inl h1
          · exact .inr ⟨r, r', h1, h2, h3.succ⟩
theorem findAsking_strip {kt : TypeId} {k : Value} : ∀ {es fs : List MapEntry} (_ : es.map (·.key) = fs.map (·.key)) (i : Nat) (w : World) (r : Option (Nat × Value)) (w' : World),
    (Instr.findAsking kt k (stripK es) i).run P w = .ok r w' → ∃ r', (Instr.findAsking kt k fs i).run P w = .ok r' w' ∧ Mt fs i r r' := by
  intro es
  induction es with
  | nil =>
    intro fs h i w r w' hr
    have : fs = [] := by simpa using h.symm
    subst this
    simp only [stripK_eq, List.map_nil, Instr.findAsking, Sem.run_pure] at hr ⊢
    cases hr
    exact ⟨none, rfl, .inl ⟨rfl, rfl⟩⟩
  | cons e es ih =>
    intro fs h i w r w' hr
    cases fs with
    | nil => simp at h
    | cons f fs =>
      simp only [List.map_cons, List.cons.injEq] at h
      rw [stripK_eq, List.map_cons, ← stripK_eq] at hr
      simp only [Instr.findAsking, h.1, Sem.run_bind] at hr ⊢
      cases hq : (Op.equal kt k f.key).run P w with
      | halt x w1 => rw [hq] at hr; cases hr
      | ok b w1 =>
        rw [hq] at hr
        simp only [Result.andThen_ok] at hr ⊢
        cases b with
        | true =>
          simp only [if_true, Sem.run_pure] at hr ⊢
          cases hr
          exact ⟨_, rfl, .inr ⟨0, f, rfl, rfl, rfl⟩⟩
        | false =>
          simp only [Bool.false_eq_true, if_false] at hr ⊢
          obtain ⟨r', h1, h2⟩ := ih h.2 (i + 1) w1 r w' hr
          exact ⟨r', h1, h2.succ⟩
theorem findKey_strip {kt : TypeId} {k : Value} {es fs : List MapEntry} (h : es.map (·.key) = fs.map (·.key)) {w : World} {r : Option (Nat × Value)} {w' : World}
    (hr : (Instr.findKey kt k (stripK es)).run P w = .ok r w') : ∃ r', (Instr.findKey kt k fs).run P w = .ok r' w' ∧ Mt fs 0 r r' := by
  simp only [Instr.findKey, Sem.run_bind] at hr ⊢
  cases hu : (underlying kt).run P w with
  | halt x w1 => rw [hu] at hr; cases hr
  | ok d w1 =>
    rw [hu] at hr
    simp only [Result.andThen_ok] at hr ⊢
    rcases findNow_strip (kd := d) (k := k) h 0 with ⟨h1, h2⟩ | ⟨q, q', h1, h2, h3⟩
    · rw [h1] at hr
      rw [h2]
      exact findAsking_strip h 0 w1 r w' hr
    · rw [h1] at hr
      rw [h2]
      simp only [Sem.run_pure] at hr ⊢
      cases hr
      exact ⟨q', rfl, h3⟩
theorem EntR.keys {dead : Nat → Prop} {es fs : List MapEntry} (h : EntR m dead es fs) : es.map (·.key) = fs.map (·.key) := by
  apply List.ext_getElem?
  intro i
  rw [List.getElem?_map, List.getElem?_map]
  by_cases hi : i < es.length
  · have hi' : i < fs.length := by rw [← h.1]; exact hi
    have := (h.2 i es[i] fs[i] (List.getElem?_eq_getElem hi) (List.getElem?_eq_getElem hi')).1
    rw [List.getElem?_eq_getElem hi, List.getElem?_eq_getElem hi']
    simp [this]
  · have hi' : ¬ i < fs.length := by rw [← h.1]; exact hi
    rw [List.getElem?_eq_none (by omega), List.getElem?_eq_none (by omega)]
/-- The search in both. -/
theorem findG_ok {kt : TypeId} {k ku : Value} {es fs : List MapEntry} {em : Bool} (h : EntR m s.dead es fs) (hk : VRel m s.dead k ku) (hb : findG P kt k es em ≠ .bad) :
    ku = k ∧ (Instr.checkKey em 10000 kt k).run P w = .ok () w ∧ ∃ r, (Instr.findKey kt k fs).run P w = .ok r w ∧ FR m s.dead (findG P kt k es em) r ∧ ∀ i e, findG P kt k es em = .found i e → es[i]? = some e := by
  unfold findG at hb ⊢
  simp only [bif', brec] at hb ⊢
  cases hf : flat k with
  | false => rw [hf] at hb; exact absurd rfl hb
  | true =>
    rw [hf] at hb
    simp only [if_true] at hb ⊢
    have hku := hk.flat_eq hf
    cases hc : pureRun P (do Instr.checkKey em 10000 kt k; pure undef) with
    | fail _ => rw [hc] at hb; exact absurd rfl hb
    | ok x =>
      rw [hc] at hb
      simp only at hb ⊢
      obtain ⟨u, hu, _⟩ := pureRun_ls (P := P) (m := m) (s := s) (w := w) x hc
      have h1 : (Instr.checkKey em 10000 kt k).run P w = .ok () w := by
        rw [Sem.run_bind] at hu
        cases hq : (Instr.checkKey em 10000 kt k).run P w with
        | halt y w1 => rw [hq] at hu; cases hu
        | ok y w1 => rw [hq] at hu; simp only [Result.andThen_ok, Sem.run_pure] at hu; cases hu; rfl
      refine ⟨hku, h1, ?_⟩
      cases hd : pureRun P (do pure (idxV (← Instr.findKey kt k (stripK es)))) with
      | fail _ => rw [hd] at hb; exact absurd rfl hb
      | ok v =>
        rw [hd] at hb
        simp only at hb ⊢
        obtain ⟨u', hu', hvu⟩ := pureRun_ls (P := P) (m := m) (s := s) (w := w) v hd
        rw [Sem.run_bind] at hu'
        cases hq : (Instr.findKey kt k (stripK es)).run P w with
        | halt y w1 => rw [hq] at hu'; cases hu'
        | ok r w1 =>
          rw [hq] at hu'
          simp only [Result.andThen_ok, Sem.run_pure] at hu'
          cases hu'
          obtain ⟨r', g1, g2⟩ := findKey_strip h.keys hq
          refine ⟨r', g1, ?_⟩
          -- what was told is the place
          have hv : v = idxV r := by
            rcases g2 with ⟨rfl, _⟩ | ⟨n, f, _, rfl, _⟩
            · cases hvu with
              | poison _ => exact absurd rfl hb
              | flat _ _ => rfl
            · cases hvu with
              | poison _ => exact absurd rfl hb
              | flat _ _ => rfl
          subst hv
          rcases g2 with ⟨rfl, rfl⟩ | ⟨n, f, hn, rfl, rfl⟩
          · exact ⟨.not, fun i e h => by cases h⟩
          · have hnl : n < es.length := by rw [h.1]; exact (List.getElem?_eq_some_iff.1 hn).1
            have he : nthK (0 + n) es = some es[n] := by rw [nthK_eq, Nat.zero_add, List.getElem?_eq_getElem hnl]
            have hfa : foundAt (idxV (some (0 + n, undef))) es = .found (0 + n) es[n] := by
              show (match nthK (0 + n) es with | some e => FK.found (0 + n) e | none => .bad) = _
              rw [he]
            rw [hfa]
            refine ⟨.found _ _ _ (h.2 n es[n] f (List.getElem?_eq_getElem hnl) hn).2.2, fun i e h => ?_⟩
            cases h
            rw [Nat.zero_add, List.getElem?_eq_getElem hnl]
theorem mapElemG_some {t : TypeId} {q : TypeId × TypeId} (h : mapElemG P t = some q) : P.underlying t = some (.map q.1 q.2) := by
  unfold mapElemG at h
  split at h
  · rename_i k e hd; cases h; exact hd
  · cases h
theorem isNilK_eq {α : Type} (l : List α) : isNilK l = l.isEmpty := by cases l <;> rfl
theorem lookupG_ls (hR : Rel P B W0 pend s m w) {t : TypeId} {q : TypeId × TypeId} {z : Value} (he : mapElemG P t = some q) (hz : tzero P q.2 = some z) {x k u v : Value} {ok : Bool} (hx : VRel m s.dead x u) (hk : VRel m s.dead k v) :
    LS P s m w (doLookupG P q.1 z x k ok s) (Instr.lookup t u v ok) := by
  intro y h
  have hd := mapElemG_some he
  obtain ⟨i, hi, hz', hfl⟩ := tzero_some hz
  unfold doLookupG at h
  split at h
  · split at h
    · rename_i hf
      have := hx.mnil_inv; subst this
      obtain ⟨rfl, hck, r, hr, hfr, _⟩ := findG_ok (P := P) (w := w) (kt := q.1) (es := []) (fs := []) (em := true) ⟨rfl, by simp⟩ hk (by rw [hf]; simp)
      rw [hf] at hfr
      cases hfr
      cases h
      refine ⟨_, ?_, lookRes_rel (vrel_flat hfl)⟩
      have hem : (#[] : Array MapEntry).isEmpty = true := rfl
      simp only [Instr.lookup, Sem.run_bind, run_underlying hd, Result.andThen_ok, Sem.run_pure, hem, hck, hr, run_zero hi hz']
    · cases h
  · rename_i r
    split at h
    · rename_i es c hg
      obtain ⟨kk, fs, rfl, hmp⟩ := hR.map hx hg
      have hget : (getObj kk).run P w = .ok (.map fs c) w := by simp [getObj, Sem.run, hmp.hc]
      have hem : fs.isEmpty = isNilK es := by
        rw [isNilK_eq]
        have hsz : fs.size = es.length := by have := hmp.rel.1; simpa using this.symm
        cases es with
        | nil => simp [Array.isEmpty, hsz]
        | cons e es => simp [Array.isEmpty, hsz]
      have key : findG P q.1 k es (isNilK es) ≠ .bad → v = k ∧ (Instr.checkKey (isNilK es) 10000 q.1 k).run P w = .ok () w ∧ ∃ r, (Instr.findKey q.1 k fs.toList).run P w = .ok r w ∧ FR m s.dead (findG P q.1 k es (isNilK es)) r := fun hb => by
        obtain ⟨a1, a2, r, a3, a4, _⟩ := findG_ok (P := P) (w := w) hmp.rel hk hb
        exact ⟨a1, a2, r, a3, a4⟩
      split at h
      · rename_i j en hf
        obtain ⟨rfl, hck, r', hr, hfr⟩ := key (by rw [hf]; simp)
        rw [hf] at hfr
        cases hfr with
        | found _ _ q' hq =>
          cases h
          refine ⟨_, ?_, lookRes_rel hq⟩
          simp only [Instr.lookup, Sem.run_bind, run_underlying hd, Result.andThen_ok, hget, Sem.run_pure, hem, hck, hr]
      · rename_i hf
        obtain ⟨rfl, hck, r', hr, hfr⟩ := key (by rw [hf]; simp)
        rw [hf] at hfr
        cases hfr
        cases h
        refine ⟨_, ?_, lookRes_rel (vrel_flat hfl)⟩
        simp only [Instr.lookup, Sem.run_bind, run_underlying hd, Result.andThen_ok, hget, Sem.run_pure, hem, hck, hr, run_zero hi hz']
      · cases h
    · cases h
  · cases h
/-- A map's entries are laid anew. -/
theorem Rel.setMap (hR : Rel P B W0 pend s m w) {r q : Nat} {es : List MapEntry} {c : Nat} {fs : Array MapEntry} (hg : s.get r = some (.mp es c)) (hmp : MapAt B m s.dead w r q es c fs) (es' : List MapEntry) (c' : Nat) (fs' : Array MapEntry) (hrel : EntR m s.dead es' fs'.toList) :
    Rel P B W0 pend (s.put r (.mp es' c')) m { w with heap := w.heap.setIfInBounds q (.map fs' c') } ∧ (setObj q (.map fs' c')).run P w = .ok () { w with heap := w.heap.setIfInBounds q (.map fs' c') } ∧ Ext s m (s.put r (.mp es' c')) m := by
  obtain ⟨N, z, hmb⟩ := hmp.mb
  have hlt : q < w.heap.size := (Array.getElem?_eq_some_iff.1 hmp.hc).1
  have hnd : ¬ s.dead r := by simp [AS.dead, hg]
  refine ⟨hR.setBlock (ob := .map fs' c') hmb hnd hmp.fr _ (by simp) (by simp [hlt]) (fun k hk => by simp [Ne.symm hk]) (by simp) rfl rfl ⟨q, fs', ⟨N, z, hmb⟩, by simp [hlt], hmp.fr, hrel⟩, by simp [setObj, Sem.run, hmp.hc], Ext.put hR hnd _ (fun k hk => by rw [hg] at hk; cases hk)⟩
theorem EntR.set {dead : Nat → Prop} {es : List MapEntry} {fs : Array MapEntry} (h : EntR m dead es fs.toList) {j : Nat} {e : MapEntry} {g : MapEntry → MapEntry} (hj : j < es.length) (hx : ∀ f, fs[j]? = some f → (g f).key = e.key ∧ (g f).born = e.born ∧ VRel m dead e.val (g f).val) :
    EntR m dead (setK j e es) (fs.modify j g).toList := by
  have hfl : fs.toList.length = es.length := h.1.symm
  refine ⟨by rw [setK_length _ _ _ hj, Array.toList_modify, List.length_modify]; exact hfl.symm, fun i e1 f1 h1 h2 => ?_⟩
  rw [setK_get _ _ _ hj] at h1
  rw [Array.toList_modify, List.getElem?_modify] at h2
  by_cases hij : i = j
  · subst hij
    rw [if_pos rfl] at h1
    cases h1
    have hi' : i < fs.size := by simp at hfl; omega
    have hfi : fs[i]? = some fs[i] := Array.getElem?_eq_getElem hi'
    have h3 : fs.toList[i]? = some fs[i] := by simp
    rw [h3] at h2
    simp at h2
    subst h2
    exact hx _ hfi
  · rw [if_neg hij] at h1
    have h2' : fs.toList[i]? = some f1 := by
      have hji : ¬ j = i := fun e => hij e.symm
      simpa [hji] using h2
    exact h.2 i e1 f1 h1 h2'
theorem EntR.push {dead : Nat → Prop} {es : List MapEntry} {fs : Array MapEntry} (h : EntR m dead es fs.toList) {e f : MapEntry} (h1 : f.key = e.key) (h2 : f.born = e.born) (h3 : VRel m dead e.val f.val) : EntR m dead (appK es [e]) (fs.push f).toList := by
  rw [appK_eq, Array.toList_push]
  have hl : es.length = fs.toList.length := h.1
  refine ⟨by simp [hl], fun i e1 f1 h1' h2' => ?_⟩
  rw [List.getElem?_append] at h1' h2'
  by_cases hi : i < es.length
  · rw [if_pos hi] at h1'
    rw [if_pos (by omega)] at h2'
    exact h.2 i e1 f1 h1' h2'
  · rw [if_neg hi] at h1'
    rw [if_neg (by omega)] at h2'
    rw [hl] at h1'
    have h0 : i - fs.toList.length = 0 := by
      have := (List.getElem?_eq_some_iff.1 h1').1
      simp at this ⊢; omega
    rw [h0] at h1' h2'
    cases h1'; cases h2'
    exact ⟨h1, h2, h3⟩
theorem stays {a b : Value} (h : Instr.sameBits 10000 a b = true) (w : World) : (Instr.keyThatStays a b).run P w = .ok b w := by
  simp [Instr.keyThatStays, h]
theorem EntR.at {dead : Nat → Prop} {es : List MapEntry} {fs : Array MapEntry} (h : EntR m dead es fs.toList) {j : Nat} {e : MapEntry} (he : es[j]? = some e) : ∃ f, fs[j]? = some f ∧ f.key = e.key ∧ f.born = e.born ∧ VRel m dead e.val f.val := by
  have hj : j < fs.size := by
    have := (List.getElem?_eq_some_iff.1 he).1
    have := h.1
    simp at this; omega
  have hf : fs[j]? = some fs[j] := Array.getElem?_eq_getElem hj
  exact ⟨_, hf, h.2 j e _ he (by simp)⟩
theorem updateG_au (hR : Rel P B W0 pend s m w) {t : TypeId} {q : TypeId × TypeId} (he : mapElemG P t = some q) {mp k x mu ku xu : Value} (hm : VRel m s.dead mp mu) (hk : VRel m s.dead k ku) (hx : VRel m s.dead x xu) :
    AU P B W0 pend s m w (doUpdateG P q.1 mp k x s) (Instr.mapUpdate t mu ku xu) := by
  intro v s' h
  have hd := mapElemG_some he
  unfold doUpdateG at h
  split at h
  · rename_i r
    split at h
    · rename_i es c hg
      obtain ⟨a, fs, rfl, hmp⟩ := hR.map hm hg
      have hget : (getObj a).run P w = .ok (.map fs c) w := by simp [getObj, Sem.run, hmp.hc]
      split at h
      · rename_i j en hf
        obtain ⟨rfl, hck, res, hres, hfr, hat⟩ := findG_ok (P := P) (w := w) hmp.rel hk (by rw [hf]; simp)
        simp only [bif', brec] at h
        split at h
        · rename_i hsb
          cases h
          rw [hf] at hfr
          have hen := hat j en hf
          obtain ⟨f, hfj, g1, g2, g3⟩ := hmp.rel.at hen
          cases hfr with
          | found _ _ u hq =>
            obtain ⟨b1, b2, b3⟩ := hR.setMap hg hmp (setK j { key := ku, val := x, born := en.born } es) c (fs.modify j fun e => { e with key := ku, val := xu }) (hmp.rel.set (List.getElem?_eq_some_iff.1 hen).1 fun f' hf' => by
              rw [hfj] at hf'; cases hf'; exact ⟨rfl, g2, hx⟩)
            refine ⟨rfl, m, _, ?_, b1, b3⟩
            simp only [Instr.mapUpdate, Sem.run_bind, run_underlying hd, Result.andThen_ok, hget, hck, hres, hfj, Option.map_some, Option.getD_some, g1, stays hsb, b2]
        · cases h
      · rename_i hf
        obtain ⟨rfl, hck, res, hres, hfr, hat⟩ := findG_ok (P := P) (w := w) hmp.rel hk (by rw [hf]; simp)
        cases h
        rw [hf] at hfr
        cases hfr
        obtain ⟨b1, b2, b3⟩ := hR.setMap hg hmp (appK es [{ key := ku, val := x, born := c }]) (c + 1) (fs.push { key := ku, val := xu, born := c }) (hmp.rel.push rfl rfl hx)
        refine ⟨rfl, m, _, ?_, b1, b3⟩
        simp only [Instr.mapUpdate, Sem.run_bind, run_underlying hd, Result.andThen_ok, hget, hck, hres, b2]
      · cases h
    · cases h
  · cases h
theorem entryG_av (hR : Rel P B W0 pend s m w) {t : TypeId} {q : TypeId × TypeId} {z : Value} (he : mapElemG P t = some q) (hz : tzero P q.2 = some z) {mp k mu ku : Value} (hm : VRel m s.dead mp mu) (hk : VRel m s.dead k ku) :
    AV P B W0 pend s m w (doEntryG P q.1 z mp k s) (Instr.mapEntry t mu ku) := by
  intro v s' h
  have hd := mapElemG_some he
  obtain ⟨i, hi, hz', hfl⟩ := tzero_some hz
  have pair : ∀ {s1 : AS} {m1 : Mp} {x u : Value} (n : Nat), VRel m1 s1.dead x u → VRel m1 s1.dead (.tuple #[x, .int .i64 (.ofNat n)]) (.tuple #[u, goInt n]) := fun n h => vrel_tuple (.cons h (.cons (.flat _ rfl) .nil))
  unfold doEntryG at h
  split at h
  · rename_i r
    split at h
    · rename_i es c hg
      obtain ⟨a, fs, rfl, hmp⟩ := hR.map hm hg
      have hget : (getObj a).run P w = .ok (.map fs c) w := by simp [getObj, Sem.run, hmp.hc]
      split at h
      · rename_i j en hf
        obtain ⟨rfl, hck, res, hres, hfr, hat⟩ := findG_ok (P := P) (w := w) hmp.rel hk (by rw [hf]; simp)
        simp only [bif', brec] at h
        split at h
        · rename_i hsb
          cases h
          rw [hf] at hfr
          have hen := hat j en hf
          obtain ⟨f, hfj, g1, g2, g3⟩ := hmp.rel.at hen
          cases hfr with
          | found _ _ u hq =>
            obtain ⟨b1, b2, b3⟩ := hR.setMap hg hmp (setK j { key := ku, val := en.val, born := en.born } es) c (fs.modify j fun e => { e with key := ku }) (hmp.rel.set (List.getElem?_eq_some_iff.1 hen).1 fun f' hf' => by
              rw [hfj] at hf'; cases hf'; exact ⟨rfl, g2, g3⟩)
            refine ⟨m, _, .tuple #[u, goInt f.born], ?_, b1, b3, by rw [g2]; exact pair _ (hq.mono b3.mp b3.dead)⟩
            simp only [Instr.mapEntry, Sem.run_bind, run_underlying hd, Result.andThen_ok, hget, hck, hres, hfj, Option.map_some, Option.getD_some, g1, stays hsb, b2, Sem.run_pure]
        · cases h
      · rename_i hf
        obtain ⟨rfl, hck, res, hres, hfr, hat⟩ := findG_ok (P := P) (w := w) hmp.rel hk (by rw [hf]; simp)
        cases h
        rw [hf] at hfr
        cases hfr
        obtain ⟨b1, b2, b3⟩ := hR.setMap hg hmp (appK es [{ key := ku, val := z, born := c }]) (c + 1) (fs.push { key := ku, val := z, born := c }) (hmp.rel.push rfl rfl (vrel_flat hfl))
        refine ⟨m, _, .tuple #[z, goInt c], ?_, b1, b3, pair _ (vrel_flat hfl)⟩
        simp only [Instr.mapEntry, Sem.run_bind, run_underlying hd, Result.andThen_ok, hget, hck, hres, run_zero hi hz', b2, Sem.run_pure]
      · cases h
    · cases h
  · cases h
theorem bornAt_cons (n : Nat) (e : MapEntry) (l : List MapEntry) (i : Nat) : bornAt n (e :: l) i = if e.born = n then .found i e else bornAt n l (i + 1) := by
  show @Bool.rec (fun _ => FK) (bornAt n l (Nat.add i 1)) (.found i e) (Nat.beq e.born n) = _
  by_cases h : e.born = n
  · rw [if_pos h, show Nat.beq e.born n = true from by rw [Nat.beq_eq]; exact h]
  · rw [if_neg h, show Nat.beq e.born n = false from by rw [← Bool.not_eq_true, Nat.beq_eq]; exact h]
theorem bornAt_ok {dead : Nat → Prop} {n : Nat} {es : List MapEntry} : ∀ {fs : List MapEntry} {i j : Nat} {e : MapEntry}, EntR m dead es fs → bornAt n es i = .found j e → ∃ k, j = i + k ∧ es[k]? = some e ∧ fs.findIdx? (fun f => (f.born : Int) == (n : Int)) = some k := by
  induction es with
  | nil => intro fs i j e _ h; cases h
  | cons x es ih =>
    intro fs i j e hr h
    cases fs with
    | nil => have := hr.1; simp at this
    | cons f fs =>
      obtain ⟨h1, h2, h3⟩ := hr.2 0 x f rfl rfl
      have ht : EntR m dead es fs := ⟨by simpa using hr.1, fun j x y hx hy => hr.2 (j + 1) x y (by simpa using hx) (by simpa using hy)⟩
      rw [bornAt_cons] at h
      rw [List.findIdx?_cons, h2]
      split at h
      · rename_i hb
        cases h
        exact ⟨0, rfl, rfl, by simp [hb]⟩
      · rename_i hb
        obtain ⟨k, g1, g2, g3⟩ := ih ht h
        refine ⟨k + 1, by omega, by simpa using g2, ?_⟩
        rw [if_neg (by simp; omega), g3]
        rfl
theorem natOf_rel {v u : Value} {n : Nat} (h : natOf v = some n) (hv : VRel m s.dead v u) : ∃ k, u = .int k n := by
  unfold natOf at h
  split at h
  · split at h
    · cases h; exact ⟨_, hv.int_inv⟩
    · cases h
  · cases h
theorem entryStore_au (hR : Rel P B W0 pend s m w) {t : TypeId} {mp st x mu su xu : Value} (hm : VRel m s.dead mp mu) (hs : VRel m s.dead st su) (hx : VRel m s.dead x xu) :
    AU P B W0 pend s m w (doEntryStore mp st x s) (Instr.entryStore t mu su xu) := by
  intro v s' h
  unfold doEntryStore at h
  split at h
  · rename_i r
    split at h
    · rename_i n hn
      obtain ⟨kd, rfl⟩ := natOf_rel hn hs
      split at h
      · rename_i es c hg
        obtain ⟨a, fs, rfl, hmp⟩ := hR.map hm hg
        have hget : (getObj a).run P w = .ok (.map fs c) w := by simp [getObj, Sem.run, hmp.hc]
        split at h
        · rename_i j en hf
          cases h
          obtain ⟨k, hk, hen, hidx⟩ := bornAt_ok hmp.rel hf
          rw [Nat.zero_add] at hk
          subst hk
          obtain ⟨b1, b2, b3⟩ := hR.setMap hg hmp (setK j { key := en.key, val := x, born := en.born } es) c (fs.modify j fun e => { e with val := xu }) (hmp.rel.set (List.getElem?_eq_some_iff.1 hen).1 fun f' hf' => by
            obtain ⟨f, hfj, g1, g2, g3⟩ := hmp.rel.at hen
            rw [hfj] at hf'; cases hf'; exact ⟨g1, g2, hx⟩)
          refine ⟨rfl, m, _, ?_, b1, b3⟩
          have hasi : (asInt (.int kd (n : Int))).run P w = .ok (n : Int) w := by simp [asInt, asIntOf]
          have hidx' : fs.findIdx? (fun e => (e.born : Int) == (n : Int)) = some j := by
            cases fs with | mk l => first | exact hidx | simpa using hidx
          simp only [Instr.entryStore, Sem.run_bind, Result.andThen_ok, hget, hasi, hidx', b2]
        · cases h
      · cases h
    · cases h
  · cases h
theorem plain_updateG (x k v : Value) (kt : TypeId) (s : AS) : (doUpdateG P kt x k v s).plain := by
  unfold doUpdateG; split
  · split
    · split
      · simp only [bif', brec]; split <;> trivial
      · trivial
      · trivial
    · trivial
  · trivial
theorem plain_entryG (x k z : Value) (kt : TypeId) (s : AS) : (doEntryG P kt z x k s).plain := by
  unfold doEntryG; split
  · split
    · split
      · simp only [bif', brec]; split <;> trivial
      · trivial
      · trivial
    · trivial
  · trivial
theorem plain_entryStore (x k v : Value) (s : AS) : (doEntryStore x k v s).plain := by
  unfold doEntryStore; split
  · split
    · split
      · split <;> trivial
      · trivial
    · trivial
  · trivial
end
end Go.Proofs.YtbbknbmmpkpgdaaGreatDoor.KAb
