import Derived.Test.YtbbknbmmpkpgdaaGreatDoorKDraw2
namespace Go.Proofs.YtbbknbmmpkpgdaaGreatDoor.KAb
theorem eqI_ok {a b : Int} (h : eqI a b = true) : a = b := by
  cases a <;> cases b <;> simp only [eqI] at h
  · rw [Nat.beq_eq] at h; rw [h]
  · cases h
  · cases h
  · rw [Nat.beq_eq] at h; rw [h]
theorem eqA_ok {a b : Addr} (h : eqA a b = true) : a = b := by
  obtain ⟨x, o, sp⟩ := a
  obtain ⟨y, p, sq⟩ := b
  cases sp with
  | some _ => cases h
  | none =>
    cases sq with
    | some _ => cases h
    | none =>
      have h' : bif' (Nat.beq x y) (Nat.beq o p) false = true := h
      cases h1 : Nat.beq x y with
      | false => rw [h1] at h'; cases h'
      | true =>
        rw [h1] at h'
        rw [Nat.beq_eq] at h1
        have h2 : Nat.beq o p = true := h'
        rw [Nat.beq_eq] at h2
        rw [h1, h2]
theorem bif_true {b c : Bool} (h : bif' b c false = true) : b = true ∧ c = true := by cases b <;> simp_all [bif']
theorem valEq1_ok {x y : Value} (h : valEq1 x y = true) : x = y := by
  unfold valEq1 at h
  split at h
  · split at h
    · rename_i a _ b; cases a <;> cases b <;> first | rfl | (cases h)
    · cases h
  · split at h
    · rename_i k a _ l b
      obtain ⟨h1, h2⟩ := bif_true h
      rw [ikN_inj h1, eqI_ok h2]
    · cases h
  · split at h
    · rename_i a _ b; rw [eqL8_eq] at h; rw [bytes_ext (beq_iff_eq.1 h)]
    · cases h
  · split at h
    · rfl
    · cases h
  · split at h
    · rw [eqA_ok h]
    · cases h
  · split at h
    · obtain ⟨h1, h2⟩ := bif_true h
      rw [Nat.beq_eq] at h1 h2
      rw [h1, h2]
    · cases h
  · split at h
    · obtain ⟨h1, h2⟩ := bif_true h
      obtain ⟨h2, h3⟩ := bif_true h2
      rw [Nat.beq_eq] at h2 h3
      rw [eqA_ok h1, h2, h3]
    · cases h
  · split at h
    · rfl
    · cases h
  · split at h
    · rw [Nat.beq_eq] at h; rw [h]
    · cases h
  · split at h
    · rfl
    · cases h
  · split at h
    · rfl
    · cases h
  · cases h
theorem valEqL_ok {xs ys : List Value} (h : valEqL xs ys = true) : xs = ys := by
  induction xs generalizing ys with
  | nil =>
    cases ys with
    | nil => rfl
    | cons _ _ => cases h
  | cons x xs ih =>
    cases ys with
    | nil => cases h
    | cons y ys =>
      have h' : bif' (valEq1 x y) (valEqL xs ys) false = true := h
      obtain ⟨h1, h2⟩ := bif_true h'
      rw [valEq1_ok h1, ih h2]
theorem valEq_ok {x y : Value} (h : valEq x y = true) : x = y := by
  unfold valEq at h
  split at h
  · split at h
    · rw [Array.ext' (valEqL_ok h)]
    · cases h
  · split at h
    · rw [Array.ext' (valEqL_ok h)]
    · cases h
  · exact valEq1_ok h
section
variable {P : Program} {mask nt : Nat} {ops : Array Oper} {cf : CF} {base : Nat} {ds : DS}
/-- How many acts are among the first. -/
def K' (infos : List DI) (p : Nat) : Nat := ((infos.take p).filter (·.act)).length
theorem lo_le (d : DI) : ∀ (l : List DI) (k p : Nat), (∀ j e, l[j]? = some e → e.act = true → bit d.bef (k + j) = true → j < p) →
    (List.rec (motive := fun _ => Nat → Nat) (fun _ => 0) (fun e _ ih j => bif' (bif' e.act (bit d.bef j) false) (Nat.add (ih (Nat.add j 1)) 1) (ih (Nat.add j 1))) l) k ≤ K' l p := by
  intro l
  induction l with
  | nil => intro k p _; exact Nat.zero_le _
  | cons e l ih =>
    intro k p h
    have e1 : (List.rec (motive := fun _ => Nat → Nat) (fun _ => 0) (fun e _ ih j => bif' (bif' e.act (bit d.bef j) false) (Nat.add (ih (Nat.add j 1)) 1) (ih (Nat.add j 1))) (e :: l)) k =
      bif' (bif' e.act (bit d.bef k) false) (((List.rec (motive := fun _ => Nat → Nat) (fun _ => 0) (fun e _ ih j => bif' (bif' e.act (bit d.bef j) false) (Nat.add (ih (Nat.add j 1)) 1) (ih (Nat.add j 1))) l) (k + 1)) + 1)
        ((List.rec (motive := fun _ => Nat → Nat) (fun _ => 0) (fun e _ ih j => bif' (bif' e.act (bit d.bef j) false) (Nat.add (ih (Nat.add j 1)) 1) (ih (Nat.add j 1))) l) (k + 1)) := rfl
    rw [e1]
    have ih' := ih (k + 1) (p - 1) fun j x hx ha hb => by
      have := h (j + 1) x (by simpa using hx) ha (by rw [show k + (j + 1) = k + 1 + j by omega]; exact hb)
      omega
    cases hc : bif' e.act (bit d.bef k) false with
    | true =>
      obtain ⟨h1, h2⟩ := bif_true hc
      have hp := h 0 e rfl h1 (by simpa using h2)
      obtain ⟨p, rfl⟩ : ∃ q, p = q + 1 := ⟨p - 1, by omega⟩
      simp only [bif', K', List.take_succ_cons, List.filter_cons, h1, if_true, List.length_cons, Nat.add_sub_cancel] at ih' ⊢
      omega
    | false =>
      cases p with
      | zero => simp only [bif', K', List.take_zero, List.filter_nil, List.length_nil, Nat.zero_sub] at ih' ⊢; exact ih'
      | succ p =>
        simp only [bif', K', List.take_succ_cons, List.filter_cons, Nat.add_sub_cancel] at ih' ⊢
        split
        · simp only [List.length_cons]; omega
        · exact ih'
theorem hi_ge (i : Nat) : ∀ (l : List DI) (p : Nat), (∀ j e, l[j]? = some e → e.act = true → j < p → bit e.bef i = false) → K' l p ≤ hiOf i l := by
  intro l
  induction l with
  | nil => intro p _; simp [K']
  | cons e l ih =>
    intro p h
    have e1 : hiOf i (e :: l) = bif' (bif' e.act (notB (bit e.bef i)) false) (hiOf i l + 1) (hiOf i l) := rfl
    rw [e1]
    cases p with
    | zero => simp [K']
    | succ p =>
      have ih' := ih p fun j x hx ha hj => h (j + 1) x (by simpa using hx) ha (by omega)
      simp only [K', List.take_succ_cons, List.filter_cons] at ih' ⊢
      cases ha : e.act with
      | true =>
        have := h 0 e rfl ha (by omega)
        simp only [if_true, List.length_cons, bif', this, notB]
        omega
      | false => simp only [bif', Bool.false_eq_true, if_false]; exact ih'
/-- The run of a region, and what is known ahead. -/
structure Trace (P : Program) (mask nt : Nat) (ops : Array Oper) (cf : CF) (base : Nat) (infos : List DI) (N : Nat) (st : Nat → DSt) : Prop where
  kn : Known P mask ops infos
  le : N ≤ infos.length
  step : ∀ k d, k < N → infos[k]? = some d → DStep mask nt cf base infos k d (st k) (st (k + 1))
  hist : (st 0).hist = []
  chk : (st N).chks.all (chkOk (lenK (st N).hist) ((st N).s :: (st N).hist)) = true
variable {infos : List DI} {N : Nat} {st : Nat → DSt}
theorem Known.infoAt (h : Known P mask ops infos) {i : Nat} {d : DI} (hd : infos[i]? = some d) : ∃ o, ops[i]? = some o ∧ InfoAt P mask ops infos i o d := by
  have hlt : i < ops.size := by rw [← h.len]; exact (List.getElem?_eq_some_iff.1 hd).1
  obtain ⟨d', h1, h2⟩ := h.at_ i _ (Array.getElem?_eq_getElem hlt)
  rw [hd] at h1
  cases h1
  exact ⟨_, Array.getElem?_eq_getElem hlt, h2⟩
theorem Trace.get_same (h : Trace P mask nt ops cf base infos N st) {t p : Nat} : ∀ {q : Nat}, p ≤ q → q ≤ N → (∀ k d, p ≤ k → k < q → infos[k]? = some d → d.dst ≠ some t) → (st q).get mask t = (st p).get mask t := by
  intro q
  induction q with
  | zero => intro h1 _ _; rw [show p = 0 by omega]
  | succ q ih =>
    intro h1 h2 h3
    by_cases e : p = q + 1
    · rw [e]
    · obtain ⟨d, hd⟩ : ∃ d, infos[q]? = some d := ⟨_, List.getElem?_eq_getElem (by have := h.le; omega)⟩
      obtain ⟨v, _, hg, _⟩ := h.step q d (by omega) hd
      rw [hg t, if_neg (h3 q d (by omega) (by omega) hd)]
      exact ih (by omega) (by omega) fun k d hk hk' => h3 k d hk (by omega)
theorem Trace.one (h : Trace P mask nt ops cf base infos N st) {q : Nat} {d : DI} (hq : q < N) (hd : infos[q]? = some d) :
    (d.act = false → (st (q + 1)).s = (st q).s) ∧ (st (q + 1)).hist = (if d.act = true then (st q).s :: (st q).hist else (st q).hist) ∧ ∀ c ∈ (st q).chks, c ∈ (st (q + 1)).chks := by
  obtain ⟨o, _, hi⟩ := h.kn.infoAt hd
  obtain ⟨v, _, _, hr⟩ := h.step q d hq hd
  rcases hr with ⟨t, want, _, _, _, _, h1, h2, h3⟩ | ⟨_, hv⟩
  · exact ⟨fun _ => h1, h2, fun c hc => by rw [h3]; exact hc⟩
  · have ha := hi.act
    unfold ValP at hv
    have hdc : ∀ lo hi g x chks, ∀ c ∈ chks, c ∈ dChk lo hi g x chks := fun lo hi g x chks c hc => by
      unfold dChk
      cases Nat.beq lo hi
      · exact List.mem_cons_of_mem _ hc
      · exact hc
    split at hv
    · rename_i g hc
      rw [hc] at ha
      obtain ⟨_, h1, h2, h3⟩ := hv
      exact ⟨fun _ => h1, by rw [if_neg (by rw [ha]; simp [isAct])]; exact h2, fun c hc => by rw [h3]; exact hc⟩
    · rename_i g hc
      rw [hc] at ha
      obtain ⟨_, h1, h2, h3⟩ := hv
      exact ⟨fun _ => h1, by rw [if_neg (by rw [ha]; simp [isAct])]; exact h2, fun c hc => by rw [h3]; exact hdc _ _ _ _ _ c hc⟩
    · rename_i z t hc
      rw [hc] at ha
      obtain ⟨_, h1, h2, h3⟩ := hv
      exact ⟨fun _ => h1, by rw [if_neg (by rw [ha]; simp [isAct])]; exact h2, fun c hc => by rw [h3]; exact hdc _ _ _ _ _ c hc⟩
    · rename_i e n g hc
      rw [hc] at ha
      obtain ⟨_, h1, h2, h3⟩ := hv
      exact ⟨fun _ => h1, by rw [if_neg (by rw [ha]; simp [isAct])]; exact h2, fun c hc => by rw [h3]; exact hdc _ _ _ _ _ c hc⟩
    · rename_i g hc
      rw [hc] at ha
      obtain ⟨_, h2, h3⟩ := hv
      exact ⟨(fun h => by rw [ha] at h; cases h), by rw [if_pos (by rw [ha]; rfl)]; exact h2, fun c hc => by rw [h3]; exact hc⟩
    · exact hv.elim
theorem Trace.heap_same (h : Trace P mask nt ops cf base infos N st) {p : Nat} : ∀ {q : Nat}, p ≤ q → q ≤ N → (∀ k d, p ≤ k → k < q → infos[k]? = some d → d.act = false) → (st q).s = (st p).s := by
  intro q
  induction q with
  | zero => intro h1 _ _; rw [show p = 0 by omega]
  | succ q ih =>
    intro h1 h2 h3
    by_cases e : p = q + 1
    · rw [e]
    · obtain ⟨d, hd⟩ : ∃ d, infos[q]? = some d := ⟨_, List.getElem?_eq_getElem (by have := h.le; omega)⟩
      rw [(h.one (by omega) hd).1 (h3 q d (by omega) (by omega) hd)]
      exact ih (by omega) (by omega) fun k d hk hk' => h3 k d hk (by omega)
theorem K_succ {q : Nat} {d : DI} (hd : infos[q]? = some d) : K' infos (q + 1) = K' infos q + (if d.act = true then 1 else 0) := by
  unfold K'
  rw [List.take_add_one, hd, List.filter_append, List.length_append]
  congr 1
  simp [List.filter_cons]
  split <;> rfl
theorem Trace.histLen (h : Trace P mask nt ops cf base infos N st) : ∀ {q : Nat}, q ≤ N → (st q).hist.length = K' infos q := by
  intro q
  induction q with
  | zero => intro _; rw [h.hist]; simp [K']
  | succ q ih =>
    intro hq
    obtain ⟨d, hd⟩ : ∃ d, infos[q]? = some d := ⟨_, List.getElem?_eq_getElem (by have := h.le; omega)⟩
    rw [(h.one (by omega) hd).2.1, K_succ hd, ← ih (by omega)]
    split <;> simp
theorem Trace.rev (h : Trace P mask nt ops cf base infos N st) {p : Nat} : ∀ {q : Nat}, p ≤ q → q ≤ N → K' infos p ≤ K' infos q ∧ ((st q).s :: (st q).hist)[K' infos q - K' infos p]? = some (st p).s := by
  intro q
  induction q with
  | zero => intro h1 _; rw [show p = 0 by omega]; simp
  | succ q ih =>
    intro h1 h2
    by_cases e : p = q + 1
    · subst e; simp
    · obtain ⟨g1, g2⟩ := ih (by omega) (by omega)
      obtain ⟨d, hd⟩ : ∃ d, infos[q]? = some d := ⟨_, List.getElem?_eq_getElem (by have := h.le; omega)⟩
      obtain ⟨o1, o2, _⟩ := h.one (by omega) hd
      rw [K_succ hd, o2]
      cases ha : d.act with
      | true =>
        simp only [if_true]
        refine ⟨by omega, ?_⟩
        rw [show K' infos q + 1 - K' infos p = (K' infos q - K' infos p) + 1 by omega, List.getElem?_cons_succ]
        exact g2
      | false =>
        simp only [Bool.false_eq_true, if_false, Nat.add_zero]
        rw [o1 ha]
        exact ⟨g1, g2⟩
theorem Trace.chks_mem (h : Trace P mask nt ops cf base infos N st) {p : Nat} : ∀ {q : Nat}, p ≤ q → q ≤ N → ∀ c ∈ (st p).chks, c ∈ (st q).chks := by
  intro q
  induction q with
  | zero => intro h1 _ c hc; rw [show p = 0 by omega] at hc; exact hc
  | succ q ih =>
    intro h1 h2 c hc
    by_cases e : p = q + 1
    · rw [← e]; exact hc
    · obtain ⟨d, hd⟩ : ∃ d, infos[q]? = some d := ⟨_, List.getElem?_eq_getElem (by have := h.le; omega)⟩
      exact (h.one (by omega) hd).2.2 c (ih (by omega) (by omega) c hc)
/-- A look that is carried out elsewhere. -/
theorem Trace.window (h : Trace P mask nt ops cf base infos N st) {i : Nat} {d : DI} (hil : i < N) (_hd : infos[i]? = some d) {g : AS → V} {v : Value} (hg : g (st i).s = .ok v)
    (hc : (st (i + 1)).chks = dChk (loOf d infos) (hiOf i infos) g v (st i).chks) {p : Nat} (hp : p ≤ N) (h1 : loOf d infos ≤ K' infos p) (h2 : K' infos p ≤ hiOf i infos)
    (h3 : loOf d infos ≤ K' infos i) (h4 : K' infos i ≤ hiOf i infos) : g (st p).s = .ok v := by
  obtain ⟨g1, g2⟩ := h.rev hp (Nat.le_refl _)
  cases he : Nat.beq (loOf d infos) (hiOf i infos) with
  | true =>
    rw [Nat.beq_eq] at he
    obtain ⟨g3, g4⟩ := h.rev (Nat.le_of_lt hil) (Nat.le_refl _)
    have : K' infos p = K' infos i := by omega
    rw [this, g4] at g2
    rw [← Option.some.inj g2]
    exact hg
  | false =>
    unfold dChk at hc
    rw [he] at hc
    have hmem : (⟨loOf d infos, hiOf i infos, g, v⟩ : Chk) ∈ (st N).chks := h.chks_mem (p := i + 1) (by omega) (Nat.le_refl _) _ (by rw [hc]; exact List.mem_cons_self)
    have hck := List.all_eq_true.1 h.chk _ hmem
    unfold chkOk at hck
    rw [allK_eq, takeK_eq, dropK_eq, lenK_eq, List.all_eq_true] at hck
    have hl := h.histLen (q := N) (Nat.le_refl _)
    have hin : (st p).s ∈ (((st N).s :: (st N).hist).drop (Nat.sub (st N).hist.length (hiOf i infos))).take (Nat.add (Nat.sub (bif' (Nat.ble (hiOf i infos) (st N).hist.length) (hiOf i infos) (st N).hist.length) (loOf d infos)) 1) := by
      rw [hl]
      refine List.mem_of_getElem? (i := K' infos N - K' infos p - (K' infos N - hiOf i infos)) ?_
      rw [List.getElem?_take]
      have hmin : bif' (Nat.ble (hiOf i infos) (K' infos N)) (hiOf i infos) (K' infos N) = min (hiOf i infos) (K' infos N) := by
        simp only [bif', brec, Nat.ble_eq]
        split <;> omega
      rw [hmin, if_pos (by show _ < (min (hiOf i infos) (K' infos N) - loOf d infos) + 1; omega), List.getElem?_drop]
      rw [show (Nat.sub (K' infos N) (hiOf i infos)) + (K' infos N - K' infos p - (K' infos N - hiOf i infos)) = K' infos N - K' infos p by
        show (K' infos N - hiOf i infos) + _ = _; omega]
      exact g2
    have := hck _ hin
    unfold chkAt at this
    split at this
    · rename_i y hy; rw [valEq_ok this] at hy; exact hy
    · cases this
end
end Go.Proofs.YtbbknbmmpkpgdaaGreatDoor.KAb
